/- Package head: value, may. -/
import Derived.Test.YtcognpibphpadaaGreatDoorZHead
import Derived.Test.YtcognpibphpadaaGreatDoorZAny
import Derived.Shelf.Strings.FuncGrows
set_option linter.unusedVariables false
set_option linter.unusedSimpArgs false
namespace Go.Proofs.YtcognpibphpadaaGreatDoor
open Go.RowKit

def vis (c : UInt8) : Bool := decide (32 ≤ c.toNat ∧ c.toNat ≤ 126)
def oddR (x : Nat) : Bool := decide (x < 32 ∨ 126 < x)
theorem odd_calls (x : Nat) (w : World) : Calls Tryz.prog 188 #[.int .i32 (x : Int)] w fun e w' => e = .returned (.bool (oddR x)) ∧ w = w' := by
  have h0 : decide ((x : Int) < 32) = decide (x < 32) := by simp; omega
  by_cases h1 : x < 32
  · have d1 : decide ((x : Int) < 32) = true := by simp; omega
    have HO := Lib.hid (show oddR x = true by simp [oddR, h1])
    clear h0 h1
    go_enter Tryz.func188, Tryz.ntmps188
    go_wp2
    go_ret
    rw [HO.out]
    exact ⟨rfl, rfl⟩
  · have d1 : decide ((x : Int) < 32) = false := by simp; omega
    have HO := Lib.hid (show oddR x = decide ((126 : Int) < (x : Int)) by simp [oddR, h1]; omega)
    clear h0 h1
    go_enter Tryz.func188, Tryz.ntmps188
    go_wp2
    go_ret
    rw [HO.out]
    exact ⟨rfl, rfl⟩
theorem odd_pred (w : World) : PredGrows Tryz.prog 188 #[] oddR w := fun W x _ _ => (odd_calls x W).mono fun e w' ⟨he, hw⟩ => ⟨he, hw ▸ Below.refl _ _⟩
theorem odd_enters : ∀ args w, (callFunc 188 args).run Tryz.prog w = .ok (.enter 188 args) w := enters_of Tryz.func188 (by kernel_rfl) rfl

theorem idx_vis (s : ByteArray) : ∀ (f pos : Nat), pos ≤ s.size → s.size - pos ≤ f → decide (Lib.idxFuncFrom oddR true s f pos < 0) = (s.data.toList.drop pos).all vis := by
  intro f
  induction f with
  | zero =>
    intro pos h1 h2
    have : pos = s.size := by omega
    rw [List.drop_of_length_le (by rw [Array.length_toList]; show s.size ≤ pos; omega)]
    rfl
  | succ f ih =>
    intro pos h1 h2
    unfold Lib.idxFuncFrom
    by_cases hp : pos < s.size
    · rw [if_pos hp]
      have hl : pos < s.data.toList.length := by rw [Array.length_toList]; exact hp
      rw [List.drop_eq_getElem_cons hl, list_at s pos hp, List.all_cons]
      by_cases h128 : (s[pos]'hp).toNat < 128
      · have hd := decode_ascii s pos hp h128
        rw [hd]
        simp only
        by_cases ho : oddR (s[pos]'hp).toNat = true
        · rw [if_pos ho]
          have : vis (s[pos]'hp) = false := by simp only [oddR, decide_eq_true_eq] at ho; simp only [vis, decide_eq_false_iff_not]; omega
          rw [this]
          simp
        · rw [if_neg ho, ih (pos + 1) (by omega) (by omega)]
          have : vis (s[pos]'hp) = true := by simp only [oddR, decide_eq_true_eq] at ho; simp only [vis, decide_eq_true_eq]; omega
          rw [this]
          simp
      · have hd := decode_high s pos hp (by omega)
        have ho : oddR (Utf8.decode s pos).1 = true := by simp only [oddR, decide_eq_true_eq]; omega
        rw [if_pos ho]
        have : vis (s[pos]'hp) = false := by simp only [vis, decide_eq_false_iff_not]; omega
        rw [this]
        simp
    · have : pos = s.size := by omega
      rw [if_neg hp, List.drop_of_length_le (by rw [Array.length_toList]; show s.size ≤ pos; omega)]
      rfl

def valueB (l : B) : Bool := decide (l.length ≤ 200) && l.all vis && (Lib.trimB l 32 == l)

set_option maxHeartbeats 8000000 in
set_option maxRecDepth 100000 in
theorem value_calls (s : ByteArray) (w : World) (hs : s.size ≤ 1048576) : Calls Tryz.prog 159 #[.string s] w fun e w' => e = .returned (.bool (valueB s.data.toList)) ∧ Low w.heap.size w w' := by
  have hsl : s.data.toList.length = s.size := by rw [Array.length_toList]; rfl
  have hix := idx_vis s s.size 0 (by omega) (by omega)
  rw [List.drop_zero] at hix
  by_cases h1 : s.size ≤ 200
  · have d1 : decide ((s.size : Int) ≤ 200) = true := by simp; omega
    cases hv : s.data.toList.all vis with
    | false =>
      rw [hv] at hix
      have HIX : ∃ i, Lib.idxFunc oddR true s = i ∧ decide (i < 0) = false := ⟨_, rfl, hix⟩
      obtain ⟨i, hi, hi0⟩ := HIX
      have HI := Lib.hid hi
      have HV := Lib.hid (show valueB s.data.toList = false by simp [valueB, hv])
      clear hix hv hsl hi
      go_enter Tryz.func159, Tryz.ntmps159
      go_wp2_with fail
      refine (Tryz.strings_IndexFunc_grows 188 #[] odd_enters oddR s _ (odd_pred _)).mono ?_
      rintro e w' ⟨rfl, hb⟩
      rw [HI.out]
      go_wp2
      go_ret
      rw [HV.out]
      exact ⟨rfl, ⟨hb⟩⟩
    | true =>
      rw [hv] at hix
      have HIX : ∃ i, Lib.idxFunc oddR true s = i ∧ decide (i < 0) = true := ⟨_, rfl, hix⟩
      obtain ⟨i, hi, hi0⟩ := HIX
      have HI := Lib.hid hi
      have HV := Lib.hid (show valueB s.data.toList = (Lib.trimB s.data.toList 32 == s.data.toList) by simp [valueB, hv, hsl, h1])
      clear hix hv hsl hi
      go_enter Tryz.func159, Tryz.ntmps159
      go_wp2_with fail
      refine (Tryz.strings_IndexFunc_grows 188 #[] odd_enters oddR s _ (odd_pred _)).mono ?_
      rintro e w' ⟨rfl, hb⟩
      rw [HI.out]
      go_wp2_with (first | (go_at_call 95; refine (Tryz.strings_Trim_one s 32 (by decide) _ (by omega)).mono ?_; rintro e w2 ⟨rfl, hw2⟩))
      go_ret
      refine ⟨?_, ?_⟩
      · rw [HV.out]
        show Ending.returned (.bool _) = _
        simp [ByteArray.toList_eq]
      · rcases hw2 with rfl | rfl
        · exact ⟨hb⟩
        · exact ⟨hb.drew⟩
  · have d1 : decide ((s.size : Int) ≤ 200) = false := by simp; omega
    have HV := Lib.hid (show valueB s.data.toList = false by simp [valueB, hsl, h1])
    clear hix h1 hsl
    go_enter Tryz.func159, Tryz.ntmps159
    go_wp2
    go_ret
    rw [HV.out]
    exact ⟨rfl, Low.refl _ _⟩

def mayB (n v : B) : Bool := (foldF n).isSome && valueB v

set_option maxHeartbeats 8000000 in
set_option maxRecDepth 100000 in
theorem may_calls (n v : ByteArray) (w : World) (hn : v.size ≤ 1048576) : Calls Tryz.prog 123 #[.agg #[.string n, .string v]] w fun e w' => e = .returned (.bool (mayB n.data.toList v.data.toList)) ∧ Low w.heap.size w w' := by
  have HF := Lib.hid (folded_calls n)
  have HVv := Lib.hid (fun w => value_calls v w hn)
  have HM := Lib.hid (show mayB n.data.toList v.data.toList = ((foldF n.data.toList).isSome && valueB v.data.toList) from rfl)
  generalize foldF n.data.toList = rn at HF HM
  cases rn
  · go_enter Tryz.func123, Tryz.ntmps123
    go_wp2_with fail
    refine (HF.out _).mono ?_; rintro e w1 ⟨rfl, hl1⟩; simp only [fAns]
    go_wp2
    go_ret
    rw [HM.out]
    exact ⟨rfl, ((Low.refl _ _).alloc (Nat.le_refl _) _).trans (hl1.mono (by simp))⟩
  · go_enter Tryz.func123, Tryz.ntmps123
    go_wp2_with fail
    have hc1 : (w.alloc (.cells #[.string n, .string v] 33)).cell? ⟨w.heap.size, 1, none⟩ = some (.string v) := by simp [World.cell?_alloc_new]
    refine (HF.out _).mono ?_; rintro e w1 ⟨rfl, hl1⟩; simp only [fAns]
    have hc2 : w1.cell? ⟨w.heap.size, 1, none⟩ = some (.string v) := (hl1.cell (p := ⟨w.heap.size, 1, none⟩) (by simp)).trans hc1
    clear hc1
    go_wp2_with (first | (go_at_call 159; refine (HVv.out _).mono ?_; rintro e w2 ⟨rfl, hl2⟩))
    go_ret
    rw [HM.out]
    have hz := hl1.size
    simp only [World.size_alloc] at hz
    exact ⟨rfl, (((Low.refl _ _).alloc (Nat.le_refl _) _).trans (hl1.mono (by simp))).trans (hl2.mono (by omega))⟩
end Go.Proofs.YtcognpibphpadaaGreatDoor
