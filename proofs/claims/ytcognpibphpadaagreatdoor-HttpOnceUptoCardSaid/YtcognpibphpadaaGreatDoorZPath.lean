/- http.method, visible, path, status. -/
import Derived.Test.YtcognpibphpadaaGreatDoorZVal
set_option linter.unusedVariables false
set_option linter.unusedSimpArgs false
namespace Go.Proofs.YtcognpibphpadaaGreatDoor
open Go.RowKit

def methodB (l : B) : Bool := l == [71, 69, 84] || l == [80, 85, 84] || l == [80, 79, 83, 84] || l == [68, 69, 76, 69, 84, 69] || l == [72, 69, 65, 68]
set_option maxHeartbeats 8000000 in
set_option maxRecDepth 100000 in
theorem method_calls (s : ByteArray) (w : World) : Calls Tryz.prog 66 #[.string s] w fun e w' => e = .returned (.bool (methodB s.data.toList)) ∧ w = w' := by
  have HM := Lib.hid (show methodB s.data.toList = methodB s.toList by rw [ByteArray.toList_eq])
  go_enter Tryz.func66, Tryz.ntmps66
  go_wp2
  all_goals go_ret
  all_goals rw [HM.out]
  all_goals refine ⟨?_, rfl⟩
  all_goals first
    | (simp [methodB, *]; done)
    | (exfalso; simp_all; done)

def statusB (n : Int) : Bool := decide (100 ≤ n ∧ n ≤ 599)
theorem status_calls (n : Int) (w : World) : Calls Tryz.prog 68 #[.int .i64 n] w fun e w' => e = .returned (.bool (statusB n)) ∧ w = w' := by
  go_enter Tryz.func68, Tryz.ntmps68
  go_wp2
  all_goals go_ret
  all_goals refine ⟨?_, rfl⟩
  all_goals simp [statusB]
  all_goals try omega

def visFrom (a : Int) (l : B) : Bool := l.all fun c => decide (a ≤ (c.toNat : Int) ∧ (c.toNat : Int) ≤ 126)
set_option maxHeartbeats 8000000 in
set_option maxRecDepth 100000 in
theorem visible_calls (s : ByteArray) (a : Int) (w : World) (hs : s.size ≤ 1048576) : Calls Tryz.prog 106 #[.string s, .int .u8 a] w fun e w' => e = .returned (.bool (visFrom a s.data.toList)) ∧ w = w' := by
  have HSL := Lib.hid (show s.data.toList.length = s.size by rw [Array.length_toList]; rfl)
  go_enter Tryz.func106, Tryz.ntmps106
  go_wp2
  go_loop [5, 8] (fun _ i => ∃ k : Nat, k ≤ s.size ∧ i = .int .i64 k ∧ Hid (visFrom a s.data.toList = visFrom a (s.data.toList.drop k))) (fun _ i => s.size - (intOf i).toNat)
  case atStart => exact ⟨0, by omega, rfl, rfl⟩
  case round =>
    obtain ⟨k, hk, rfl, HV⟩ := hrel
    by_cases hlt : k < s.size
    · have hl : k < s.data.toList.length := by rw [HSL.out]; exact hlt
      have HD := Lib.hid (show visFrom a (s.data.toList.drop k) = (decide (a ≤ ((s[k]'hlt).toNat : Int) ∧ ((s[k]'hlt).toNat : Int) ≤ 126) && visFrom a (s.data.toList.drop (k + 1))) by
        rw [List.drop_eq_getElem_cons hl, list_at s k hlt]; rfl)
      obtain ⟨x, hx⟩ : ∃ x : Nat, (s[k]'hlt).toNat = x := ⟨_, rfl⟩
      rw [hx] at HD
      by_cases g1 : (x : Int) < a
      · have HZ := Lib.hid (show visFrom a s.data.toList = false by rw [HV.out, HD.out]; simp; omega)
        go_wp2
        go_ret
        rw [HZ.out]
        exact ⟨rfl, rfl⟩
      · by_cases g2 : (126 : Int) < (x : Int)
        · have HZ := Lib.hid (show visFrom a s.data.toList = false by rw [HV.out, HD.out]; simp; omega)
          go_wp2
          go_ret
          rw [HZ.out]
          exact ⟨rfl, rfl⟩
        · have HZ := Lib.hid (show visFrom a s.data.toList = visFrom a (s.data.toList.drop (k + 1)) by
            rw [HV.out, HD.out, decide_eq_true (by omega), Bool.true_and])
          go_wp2
          go_round
          case rel => exact ⟨k + 1, by omega, by go_num, HZ⟩
          case measure => simp [intOf]; omega
    · have HZ := Lib.hid (show visFrom a s.data.toList = true by rw [HV.out, List.drop_of_length_le (by rw [HSL.out]; omega)]; rfl)
      go_wp2
      go_ret
      rw [HZ.out]
      exact ⟨rfl, rfl⟩

def pathB (l : B) : Bool := Lib.hasPrefix l [47] && (decide (l.length ≤ 60) && (visFrom 33 l && !decide (0 ≤ Lib.indexByte l 35)))
set_option maxHeartbeats 8000000 in
set_option maxRecDepth 100000 in
theorem path_calls (s : ByteArray) (w : World) (hs : s.size ≤ 1048576) : Calls Tryz.prog 67 #[.string s] w fun e w' => e = .returned (.bool (pathB s.data.toList)) ∧ w = w' := by
  have hsl : s.data.toList.length = s.size := by rw [Array.length_toList]; rfl
  have HP := Lib.hid (Tryz.strings_HasPrefix s ⟨#[47]⟩ w)
  have HVi := Lib.hid (visible_calls s 33 w hs)
  have HC := Lib.hid (Tryz.strings_Contains_one s 35 w)
  have e47 : (ByteArray.mk #[47]).data.toList = [47] := rfl
  rw [e47] at HP
  have HB := Lib.hid (show pathB s.data.toList = (Lib.hasPrefix s.data.toList [47] && (decide (s.data.toList.length ≤ 60) && (visFrom 33 s.data.toList && !decide (0 ≤ Lib.indexByte s.data.toList 35)))) from rfl)
  have hl : decide ((s.size : Int) ≤ 60) = decide (s.data.toList.length ≤ 60) := by
    rw [hsl]
    by_cases h : s.size ≤ 60
    · simp [h]; omega
    · simp [h]; omega
  generalize Lib.hasPrefix s.data.toList [47] = a at HP HB
  generalize visFrom 33 s.data.toList = b at HVi HB
  generalize decide (0 ≤ Lib.indexByte s.data.toList 35) = c at HC HB
  generalize decide (s.data.toList.length ≤ 60) = d at hl HB
  clear hsl e47
  cases a <;> cases d <;> cases b
  all_goals
    go_enter Tryz.func67, Tryz.ntmps67
    go_wp2_with (first | (go_at_call 91; refine HP.out.mono ?_; rintro e w1 ⟨rfl, hw1⟩; rw [hw1]) | (go_at_call 106; refine HVi.out.mono ?_; rintro e w2 ⟨rfl, rfl⟩) | (go_at_call 119; refine HC.out.mono ?_; rintro e w3 ⟨rfl, hw3⟩; rw [hw3]))
    go_ret
    rw [HB.out]
    exact ⟨by simp, rfl⟩
end Go.Proofs.YtcognpibphpadaaGreatDoor
