/- strings.Split at a blank; strings.CutPrefix, Cut. -/
import Derived.Test.YtcognpibphpadaaGreatDoorZLine
set_option linter.unusedVariables false
set_option linter.unusedSimpArgs false
namespace Go.Proofs.YtcognpibphpadaaGreatDoor
open Go.RowKit

/-- The pieces between blanks. -/
def splitSp : B → List B
  | [] => [[]]
  | c :: t => if c = 32 then [] :: splitSp t else match splitSp t with
    | [] => [[c]]
    | h :: r => (c :: h) :: r
theorem splitSp_ne (l : B) : splitSp l ≠ [] := by
  cases l with
  | nil => simp [splitSp]
  | cons c t => unfold splitSp; split <;> (try split) <;> simp
theorem splitSp_free (a : B) (h : (32 : UInt8) ∉ a) : splitSp a = [a] := by
  induction a with
  | nil => rfl
  | cons c t ih =>
    simp only [List.mem_cons, not_or] at h
    unfold splitSp
    rw [if_neg (fun e => h.1 e.symm), ih h.2]
theorem splitSp_app (a t : B) (h : (32 : UInt8) ∉ a) : splitSp (a ++ 32 :: t) = a :: splitSp t := by
  induction a with
  | nil => simp [splitSp]
  | cons c r ih =>
    simp only [List.mem_cons, not_or] at h
    show splitSp (c :: (r ++ 32 :: t)) = _
    rw [splitSp, if_neg (fun e => h.1 e.symm), ih h.2]
theorem split_at (l : B) : (32 : UInt8) ∈ l → ∃ a t, l = a ++ 32 :: t ∧ (32 : UInt8) ∉ a := by
  induction l with
  | nil => intro h; cases h
  | cons c r ih =>
    intro h
    by_cases hc : c = 32
    · exact ⟨[], r, by simp [hc], by simp⟩
    · have : (32 : UInt8) ∈ r := by
        rcases List.mem_cons.1 h with e | e
        · exact absurd e.symm hc
        · exact e
      obtain ⟨a, t, e, hn⟩ := ih this
      exact ⟨c :: a, t, by simp [e], by simp [hn]; exact fun e => hc e.symm⟩
theorem index_app (a t : B) (h : (32 : UInt8) ∉ a) : Lib.index (a ++ 32 :: t) [32] = (a.length : Int) := by
  rw [Lib.index_one]
  induction a with
  | nil => simp [Lib.indexByte]
  | cons c r ih =>
    simp only [List.mem_cons, not_or] at h
    have hc : (c == 32) = false := by simp; exact fun e => h.1 e.symm
    show Lib.indexByte (c :: (r ++ 32 :: t)) 32 = _
    unfold Lib.indexByte
    rw [if_neg (by simp [hc]), ih h.2]
    rw [if_neg (by simp)]
    simp
theorem index_free (a : B) (h : (32 : UInt8) ∉ a) : Lib.index a [32] = -1 := by
  rw [Lib.index_one]
  induction a with
  | nil => rfl
  | cons c r ih =>
    simp only [List.mem_cons, not_or] at h
    have hc : (c == 32) = false := by simp; exact fun e => h.1 e.symm
    unfold Lib.indexByte
    rw [if_neg (by simp [hc]), ih h.2]
    rfl
theorem splitK_sp : ∀ (n : Nat) (l : B), l.count 32 = n → Lib.splitK [32] 0 n l = splitSp l
  | 0, l, h => by rw [splitSp_free l (List.count_eq_zero.1 h)]; rfl
  | n + 1, l, h => by
    obtain ⟨a, t, rfl, hn⟩ := split_at l (List.count_pos_iff.1 (by omega))
    have ht : t.count 32 = n := by
      rw [List.count_append, List.count_eq_zero.2 hn, List.count_cons_self] at h; omega
    rw [splitSp_app a t hn]
    unfold Lib.splitK
    rw [index_app a t hn, if_neg (by simp)]
    have e1 : ((a.length : Int)).toNat + 0 = a.length := by omega
    have e2 : ((a.length : Int)).toNat + [(32 : UInt8)].length = a.length + 1 := by simp
    rw [e1, e2]
    have h1 : (a ++ 32 :: t).take a.length = a := by simp
    have h2 : (a ++ 32 :: t).drop (a.length + 1) = t := by simp
    rw [h1, h2, splitK_sp n t ht]
theorem splitSp_len (l : B) : (splitSp l).length = l.count 32 + 1 := by
  induction l with
  | nil => rfl
  | cons c t ih =>
    rw [splitSp]
    split
    · next h => subst h; simp [ih]
    · next h =>
      have : t.count 32 = (c :: t).count 32 := by rw [List.count_cons_of_ne h]
      rw [← this, ← ih]
      split
      · next e => exact absurd e (splitSp_ne t)
      · next e => rw [e]; simp
theorem split_calls (s : ByteArray) (w : World) (hs : s.size ≤ 1048576) (hg : Glob w) : Calls Tryz.prog 108 #[.string s, .string ⟨#[32]⟩] w fun e w' => e = .returned (.slice (some ⟨w.heap.size, 0, none⟩) (splitSp s.data.toList).length (splitSp s.data.toList).length) ∧ w' = w.alloc (.cells ((splitSp s.data.toList).map fun x => Value.string (bs x)).toArray 9) := by
  obtain ⟨m, hm⟩ := hg.most
  have hc : Lib.countB s ⟨#[32]⟩ = s.data.toList.count 32 := Lib.count_one 32 _
  have hk : Lib.splitB ⟨#[32]⟩ 0 (s.data.toList.count 32) s = (splitSp s.data.toList).map bs := by
    rw [← splitK_sp _ s.data.toList rfl, ← Lib.splitB_data ⟨#[32]⟩ 0 _ s, List.map_map]
    exact (List.map_id _).symm
  refine (Tryz.strings_Split s ⟨#[32]⟩ m w (by omega) hm (by decide)).mono ?_
  rintro e w' ⟨rfl, rfl⟩
  rw [hc, hk, splitSp_len, List.map_map]
  exact ⟨rfl, rfl⟩
end Go.Proofs.YtcognpibphpadaaGreatDoor
