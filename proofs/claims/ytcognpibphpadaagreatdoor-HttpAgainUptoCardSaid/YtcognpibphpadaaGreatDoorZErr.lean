/- An error of Parse is none of number 0. -/
import Derived.Test.YtcognpibphpadaaGreatDoorZCut
set_option linter.unusedVariables false
set_option linter.unusedSimpArgs false
namespace Go.Proofs.YtcognpibphpadaaGreatDoor
open Go.RowKit

theorem scan_err : ∀ (t : B) (i : Nat) (c : Int), scan i t = .error c → c ≠ 0
  | [], i, c, h => by unfold scan at h; cases h; decide
  | x :: t, i, c, h => by
    unfold scan at h
    split at h
    · cases h; decide
    · split at h
      · cases h
      · split at h
        · cases h; decide
        · exact scan_err t (i + 1) c h
theorem ends_err {l : B} {a : Nat} {c : Int} (h : endsAt l a = .error c) : c ≠ 0 := by
  unfold endsAt at h
  split at h
  · split at h
    · split at h
      · split at h
        · cases h
        · cases h; decide
      · cases h; decide
    · cases h; decide
  · cases h; decide
theorem line_err {l : B} {a : Nat} {c : Int} (h : lineAt l a = .error c) : c ≠ 0 := by
  unfold lineAt at h
  split at h
  · next e he => cases h; exact scan_err _ _ _ he
  · split at h
    · next e he => cases h; exact ends_err he
    · cases h
theorem first_err {l : B} {a : Nat} {c : Int} (h : firstAt l a = .error c) : c ≠ 0 := by
  unfold firstAt at h
  split at h
  · next e he => cases h; exact line_err he
  · split at h
    · cases h; decide
    · cases h
theorem heads_err (l : B) : ∀ (n a : Nat) (raw : List Hd) (c : Int), n + raw.length = 21 → raw.length ≤ 20 → headsF l n a raw = .error c → c ≠ 0
  | 0, a, raw, c, h1, h2, h => by omega
  | n + 1, a, raw, c, h1, h2, h => by
    unfold headsF at h
    split at h
    · next e he => cases h; exact line_err he
    · split at h
      · cases h
      · split at h
        · cases h; decide
        · split at h
          · cases h; decide
          · refine heads_err l n _ _ c ?_ ?_ h
            · simp; omega
            · simp; omega
theorem body_err (l : B) : ∀ (k a : Nat) (body : B) (c : Int), 2001 ≤ k + body.length → body.length ≤ 2000 → bodyF l k a body = .error c → c ≠ 0
  | 0, a, body, c, h1, h2, h => by omega
  | k + 1, a, body, c, h1, h2, h => by
    unfold bodyF at h
    split at h
    · next e he => cases h; exact line_err he
    · split at h
      · cases h; decide
      · next n hn =>
        split at h
        · cases h; decide
        · split at h
          · cases h; decide
          · split at h
            · next e he => cases h; exact ends_err he
            · split at h
              · cases h
              · refine body_err l k _ _ c ?_ ?_ h
                · simp; omega
                · simp; omega
theorem frame_err {raw : List Hd} {c : Int} (h : frameF raw = .error c) : c ≠ 0 := by
  unfold frameF at h
  split at h
  · cases h; decide
  · split at h
    · cases h; decide
    · split at h
      · cases h; decide
      · cases h
theorem all_err {l : B} {size : Int} {a : Nat} {c : Int} (h : bodyAll l size a = .error c) : c ≠ 0 := by
  unfold bodyAll at h
  split at h
  · exact body_err l 2001 a [] c (by simp) (by simp) h
  · split at h
    · cases h; decide
    · cases h
theorem last_err {l : B} {a : Nat} {m : Msg} {c : Int} (h : lastF l a m = .error c) : c ≠ 0 := by
  unfold lastF at h
  split at h
  · cases h; decide
  · split at h
    · cases h
    · cases h; decide
theorem parse_err {l : B} {c : Int} (h : parseF l = .error c) : c ≠ 0 := by
  unfold parseF at h
  split at h
  · cases h; decide
  · split at h
    · next e he => cases h; exact first_err he
    · split at h
      · next e he => cases h; exact heads_err l 21 _ [] _ (by simp) (by simp) he
      · split at h
        · next e he => cases h; exact frame_err he
        · split at h
          · next e he => cases h; exact all_err he
          · split at h
            · next e he => cases h; exact last_err he
            · cases h
end Go.Proofs.YtcognpibphpadaaGreatDoor
