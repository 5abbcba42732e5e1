/- The library's ParseInt at four bytes at most, without a sign. -/
import Derived.Test.YtcognpibphpadaaGreatDoorZNum
import Derived.Test.YtcognpibphpadaaGreatDoorZShelf
set_option linter.unusedVariables false
set_option linter.unusedSimpArgs false
namespace Go.Proofs.YtcognpibphpadaaGreatDoor
open Go.RowKit

theorem numF_bound (base : Int) (hb : base = 10 ∨ base = 16) : ∀ (l : B) (k : Nat) (acc n : Int), k + l.length ≤ 4 → 0 ≤ acc → acc ≤ cbd k → numF base acc l = some n → 0 ≤ n ∧ n ≤ 65535 := by
  intro l
  induction l with
  | nil =>
    intro k acc n hk h0 h1 h
    simp only [numF] at h
    injection h with h
    have : cbd k ≤ 65535 := by
      match k with
      | 0 => decide
      | 1 => decide
      | 2 => decide
      | 3 => decide
      | k + 4 => simp [cbd]
    omega
  | cons c t ih =>
    intro k acc n hk h0 h1 h
    simp only [List.length_cons] at hk
    simp only [numF] at h
    cases hd : digI c.toNat with
    | none => rw [hd] at h; cases h
    | some d =>
      rw [hd] at h
      simp only at h
      by_cases hlt : d < base
      · rw [if_pos hlt] at h
        have hr := dig_range c d hd
        have hs := cbd_step base acc d hb k (by omega) h0 h1 hr.1 hlt
        exact ih (k + 1) _ n (by omega) hs.1 hs.2 h
      · rw [if_neg hlt] at h; cases h

/-- The answer of the inner ParseInt. -/
def iAns : Option Int → Value
  | some n => .tuple #[.int .i64 n, .nilIface]
  | none => .tuple #[.int .i64 0, .iface 190 (.int .i64 2)]

theorem err_neq (w : World) : (binOp .neq 130 (.iface 190 (.int .i64 2)) (.iface 190 (.int .i64 1))).run Tryz.prog w = .ok (.bool true) w := by kernel_rfl

set_option maxHeartbeats 8000000 in
set_option maxRecDepth 100000 in
theorem parseInt0_10 (s : ByteArray) (h1 : 1 ≤ s.size) (h4 : s.size ≤ 4) (hp : ∀ h : 0 < s.size, s[0] ≠ 43 ∧ s[0] ≠ 45) (w : World) :
    Calls Tryz.prog 174 #[.string s, .int .i64 10, .int .i64 32] w fun e w' => e = .returned (iAns (numF 10 0 s.data.toList)) ∧ Low w.heap.size w w' := by
  have hs : s.toList.isEmpty = false := by
    rw [ByteArray.toList_eq, List.isEmpty_eq_false_iff]; intro h
    have : s.size = 0 := by rw [← ByteArray.size_data, ← Array.length_toList, h]; rfl
    omega
  have hen := err_neq
  have q := hp h1
  have q1 : ((s[0].toNat : Int) == 43) = false := by rw [beq_eq_false_iff_ne]; intro e; exact q.1 (UInt8.toNat_inj.1 (by have : (43 : UInt8).toNat = 43 := rfl; omega))
  have q2 : ((s[0].toNat : Int) == 45) = false := by rw [beq_eq_false_iff_ne]; intro e; exact q.2 (UInt8.toNat_inj.1 (by have : (45 : UInt8).toNat = 45 := rfl; omega))
  clear q hp
  have hbd := numF_bound 10 (by omega) s.data.toList 0 0
  have hl : s.data.toList.length = s.size := by rw [Array.length_toList]; rfl
  have HU := Lib.hid (parseUint10_calls s h1 h4)
  cases hN : numF 10 0 s.data.toList with
  | none =>
    rw [hN] at HU
    clear hbd hl hN
    go_enter Tryz.func174, Tryz.ntmps174
    go_wp2_with (first | (go_at_call 198; refine (HU.out _).mono ?_; rintro e w' ⟨rfl, hlw⟩; simp only [uAns]))
    go_ret2
    exact ⟨rfl, hlw⟩
  | some n =>
    have hb := hbd n (by omega) (by omega) (by decide) hN
    have hb0 := hb.1
    have hb1 := hb.2
    rw [hN] at HU
    clear hbd hl hN hb
    go_enter Tryz.func174, Tryz.ntmps174
    go_wp2_with (first | (go_at_call 198; refine (HU.out _).mono ?_; rintro e w' ⟨rfl, hlw⟩; simp only [uAns]))
    go_ret2
    exact ⟨rfl, hlw⟩

/-- strconv.ParseInt: an error that is not nil where it is no number. -/
theorem parseInt_10 (s : ByteArray) (h1 : 1 ≤ s.size) (h4 : s.size ≤ 4) (hp : ∀ h : 0 < s.size, s[0] ≠ 43 ∧ s[0] ≠ 45) (w : World) (te : TypeId) (pe : Value) (he : w.cell? ⟨4, 0, none⟩ = some (.iface te pe)) :
    Calls Tryz.prog 153 #[.string s, .int .i64 10, .int .i64 32] w fun e w' =>
      (match numF 10 0 s.data.toList with | some n => e = .returned (.tuple #[.int .i64 n, .nilIface]) | none => ∃ N, e = .returned (.tuple #[.int .i64 0, .iface 191 (.pointer (some ⟨N, 0, none⟩))])) ∧ Low w.heap.size w w' := by
  have HI := Lib.hid (parseInt0_10 s h1 h4 hp)
  have hlt := World.block_lt_of_cell? w _ he
  cases hN : numF 10 0 s.data.toList with
  | none =>
    rw [hN] at HI
    clear hN
    go_enter Tryz.func153, Tryz.ntmps153
    go_wp2_with (first | (go_at_call 174; refine (HI.out _).mono ?_; rintro e w' ⟨rfl, hlw⟩; simp only [iAns]) | (go_at_call 148; refine (Tryz.strconv_toError_syntax _ s _ _ _ _ (by omega) ((hlw.cell hlt).trans he) (.inr ⟨_, _, rfl⟩)).mono ?_; rintro e w'' ⟨N, rfl, -, -, hb⟩))
    go_ret2
    exact ⟨⟨N, rfl⟩, hlw.trans ⟨hb.mono hlw.size⟩⟩
  | some n =>
    rw [hN] at HI
    clear hN
    go_enter Tryz.func153, Tryz.ntmps153
    go_wp2_with (first | (go_at_call 174; refine (HI.out _).mono ?_; rintro e w' ⟨rfl, hlw⟩; simp only [iAns]))
    go_ret2
    exact ⟨rfl, hlw⟩

set_option maxHeartbeats 8000000 in
set_option maxRecDepth 100000 in
theorem parseInt0_16 (s : ByteArray) (h1 : 1 ≤ s.size) (h4 : s.size ≤ 4) (hp : ∀ h : 0 < s.size, s[0] ≠ 43 ∧ s[0] ≠ 45) (w : World) :
    Calls Tryz.prog 174 #[.string s, .int .i64 16, .int .i64 32] w fun e w' => e = .returned (iAns (numF 16 0 s.data.toList)) ∧ Low w.heap.size w w' := by
  have hs : s.toList.isEmpty = false := by
    rw [ByteArray.toList_eq, List.isEmpty_eq_false_iff]; intro h
    have : s.size = 0 := by rw [← ByteArray.size_data, ← Array.length_toList, h]; rfl
    omega
  have hen := err_neq
  have q := hp h1
  have q1 : ((s[0].toNat : Int) == 43) = false := by rw [beq_eq_false_iff_ne]; intro e; exact q.1 (UInt8.toNat_inj.1 (by have : (43 : UInt8).toNat = 43 := rfl; omega))
  have q2 : ((s[0].toNat : Int) == 45) = false := by rw [beq_eq_false_iff_ne]; intro e; exact q.2 (UInt8.toNat_inj.1 (by have : (45 : UInt8).toNat = 45 := rfl; omega))
  clear q hp
  have hbd := numF_bound 16 (by omega) s.data.toList 0 0
  have hl : s.data.toList.length = s.size := by rw [Array.length_toList]; rfl
  have HU := Lib.hid (parseUint16_calls s h1 h4)
  cases hN : numF 16 0 s.data.toList with
  | none =>
    rw [hN] at HU
    clear hbd hl hN
    go_enter Tryz.func174, Tryz.ntmps174
    go_wp2_with (first | (go_at_call 198; refine (HU.out _).mono ?_; rintro e w' ⟨rfl, hlw⟩; simp only [uAns]))
    go_ret2
    exact ⟨rfl, hlw⟩
  | some n =>
    have hb := hbd n (by omega) (by omega) (by decide) hN
    have hb0 := hb.1
    have hb1 := hb.2
    rw [hN] at HU
    clear hbd hl hN hb
    go_enter Tryz.func174, Tryz.ntmps174
    go_wp2_with (first | (go_at_call 198; refine (HU.out _).mono ?_; rintro e w' ⟨rfl, hlw⟩; simp only [uAns]))
    go_ret2
    exact ⟨rfl, hlw⟩

/-- strconv.ParseInt: an error that is not nil where it is no number. -/
theorem parseInt_16 (s : ByteArray) (h1 : 1 ≤ s.size) (h4 : s.size ≤ 4) (hp : ∀ h : 0 < s.size, s[0] ≠ 43 ∧ s[0] ≠ 45) (w : World) (te : TypeId) (pe : Value) (he : w.cell? ⟨4, 0, none⟩ = some (.iface te pe)) :
    Calls Tryz.prog 153 #[.string s, .int .i64 16, .int .i64 32] w fun e w' =>
      (match numF 16 0 s.data.toList with | some n => e = .returned (.tuple #[.int .i64 n, .nilIface]) | none => ∃ N, e = .returned (.tuple #[.int .i64 0, .iface 191 (.pointer (some ⟨N, 0, none⟩))])) ∧ Low w.heap.size w w' := by
  have HI := Lib.hid (parseInt0_16 s h1 h4 hp)
  have hlt := World.block_lt_of_cell? w _ he
  cases hN : numF 16 0 s.data.toList with
  | none =>
    rw [hN] at HI
    clear hN
    go_enter Tryz.func153, Tryz.ntmps153
    go_wp2_with (first | (go_at_call 174; refine (HI.out _).mono ?_; rintro e w' ⟨rfl, hlw⟩; simp only [iAns]) | (go_at_call 148; refine (Tryz.strconv_toError_syntax _ s _ _ _ _ (by omega) ((hlw.cell hlt).trans he) (.inr ⟨_, _, rfl⟩)).mono ?_; rintro e w'' ⟨N, rfl, -, -, hb⟩))
    go_ret2
    exact ⟨⟨N, rfl⟩, hlw.trans ⟨hb.mono hlw.size⟩⟩
  | some n =>
    rw [hN] at HI
    clear hN
    go_enter Tryz.func153, Tryz.ntmps153
    go_wp2_with (first | (go_at_call 174; refine (HI.out _).mono ?_; rintro e w' ⟨rfl, hlw⟩; simp only [iAns]))
    go_ret2
    exact ⟨rfl, hlw⟩

end Go.Proofs.YtcognpibphpadaaGreatDoor
