/- Numbers: the library's ParseUint, ParseInt at four bytes at most, in base ten and sixteen. -/
import Derived.Test.YtcognpibphpadaaGreatDoorZBase
import Derived.Lib.ConvBytes
import Derived.Handy
set_option linter.unusedVariables false
set_option linter.unusedSimpArgs false
namespace Go.Proofs.YtcognpibphpadaaGreatDoor
open Go.RowKit

def lwI (x : Int) : Int := bits .or .u8 x 32
theorem lower_calls (x : Int) (w : World) : Calls Tryz.prog 215 #[.int .u8 x] w fun e w' => e = .returned (.int .u8 (lwI x)) ∧ w = w' := by
  go_enter Tryz.func215, Tryz.ntmps215
  go_wp2
  go_ret
  exact ⟨rfl, rfl⟩
/-- A byte's digit. -/
def digI (x : Int) : Option Int := if 48 ≤ x ∧ x ≤ 57 then some (x - 48) else if 97 ≤ lwI x ∧ lwI x ≤ 122 then some (lwI x - 87) else none
def numF (base : Int) : Int → B → Option Int
  | acc, [] => some acc
  | acc, c :: t => match digI c.toNat with
    | some d => if d < base then numF base (acc * base + d) t else none
    | none => none
theorem lwI_range : ∀ n : Fin 256, 0 ≤ lwI (n.val : Int) ∧ lwI (n.val : Int) ≤ 255 := by decide +kernel
theorem dig_range (c : UInt8) (d : Int) (h : digI c.toNat = some d) : 0 ≤ d ∧ d ≤ 35 := by
  unfold digI at h
  split at h
  · injection h with h; omega
  · split at h
    · injection h with h; omega
    · cases h

/-- The answer of ParseUint. -/
def uAns : Option Int → Value
  | some n => .tuple #[.int .u64 n, .nilIface]
  | none => .tuple #[.int .u64 0, .iface 190 (.int .i64 2)]

def cbd : Nat → Int
  | 0 => 0 | 1 => 15 | 2 => 255 | 3 => 4095 | _ => 65535
theorem cbd_step (base acc d : Int) (hb : base = 10 ∨ base = 16) (k : Nat) (hk : k < 4) (h0 : 0 ≤ acc) (h : acc ≤ cbd k) (hd0 : 0 ≤ d) (hd : d < base) : 0 ≤ acc * base + d ∧ acc * base + d ≤ cbd (k + 1) := by
  match k, hk with
  | 0, _ => simp only [cbd] at *; rcases hb with rfl | rfl <;> omega
  | 1, _ => simp only [cbd] at *; rcases hb with rfl | rfl <;> omega
  | 2, _ => simp only [cbd] at *; rcases hb with rfl | rfl <;> omega
  | 3, _ => simp only [cbd] at *; rcases hb with rfl | rfl <;> omega
theorem cbd_lt (k : Nat) (hk : k < 4) : cbd k ≤ 4095 := by
  match k, hk with
  | 0, _ => decide
  | 1, _ => decide
  | 2, _ => decide
  | 3, _ => decide

set_option maxHeartbeats 8000000 in
set_option maxRecDepth 100000 in
theorem parseUint10_calls (s : ByteArray) (h1 : 1 ≤ s.size) (h4 : s.size ≤ 4) (w : World) :
    Calls Tryz.prog 198 #[.string s, .int .i64 10, .int .i64 32] w fun e w' => e = .returned (uAns (numF 10 0 s.data.toList)) ∧ Low w.heap.size w w' := by
  have hs : s.toList.isEmpty = false := by
    rw [ByteArray.toList_eq, List.isEmpty_eq_false_iff]; intro h
    have : s.size = 0 := by rw [← ByteArray.size_data, ← Array.length_toList, h]; rfl
    omega
  obtain ⟨W1, cp, hcv, hbt, hlw, hsz, -⟩ := conv_str w s
  have hl : s.data.toList.length = s.size := by rw [Array.length_toList]; rfl
  have HL := Lib.hid hl
  clear hl
  go_enter Tryz.func198, Tryz.ntmps198
  go_wp2
  go_loop [12, 13, 101] (fun u n i => ∃ (k : Nat) (acc : Int), k ≤ s.size ∧ u = .bool false ∧ n = .int .u64 acc ∧ i = .int .i64 k ∧ 0 ≤ acc ∧ acc ≤ cbd k ∧ Hid (numF 10 0 s.data.toList = numF 10 acc (s.data.toList.drop k))) (fun _ _ i => s.size - (intOf i).toNat)
  case atStart => exact ⟨0, 0, by omega, rfl, rfl, rfl, by omega, by decide, rfl⟩
  case round =>
    obtain ⟨k, acc, hk, rfl, rfl, rfl, ha0, ha1, HN⟩ := hrel
    by_cases hlt : k < s.size
    · have hlt' : k < s.data.toList.length := by rw [HL.out]; exact hlt
      have hc := hbt.at0 k hlt'
      have hcb := cbd_lt k (by omega)
      have r0 := (s.data.toList[k]).toNat_lt
      have HD := Lib.hid (List.drop_eq_getElem_cons hlt')
      have hx0 : 0 ≤ ((s.data.toList[k]).toNat : Int) ∧ ((s.data.toList[k]).toNat : Int) ≤ 255 := by omega
      have HX : ∃ x : Int, x = ((s.data.toList[k]).toNat : Int) := ⟨_, rfl⟩
      obtain ⟨x, hx⟩ := HX
      rw [← hx] at hc hx0
      have hx0a := hx0.1
      have hx0b := hx0.2
      have hxl := lwI_range ⟨x.toNat, by omega⟩
      have hxe : ((⟨x.toNat, by omega⟩ : Fin 256).val : Int) = x := by simp; omega
      rw [hxe] at hxl
      have hxla := hxl.1
      have hxlb := hxl.2
      have Hx := Lib.hid hx
      clear hx hxe hx0 hxl r0
      by_cases g1 : 48 ≤ x ∧ x ≤ 57
      · have HG := Lib.hid (show digI x = some (x - 48) by simp [digI, g1])
        have g1a := g1.1
        have g1b := g1.2
        clear g1
        have HS := Lib.hid (cbd_step 10 acc (x - 48) (by omega) k (by omega) ha0 ha1 (by omega) (by omega))
        go_wp2
        go_round
        case rel =>
          refine ⟨k + 1, acc * 10 + (x - 48), by omega, rfl, rfl, by go_num, HS.out.1, HS.out.2, ?_⟩
          rw [Hid, HN.out, HD.out]
          simp only [numF, ← Hx.out, HG.out]
          rw [if_pos (by omega)]
        case measure => simp [intOf]; omega
      · by_cases g2 : 97 ≤ lwI x ∧ lwI x ≤ 122
        · have HG := Lib.hid (show digI x = some (lwI x - 87) by simp [digI, g1, g2])
          have g2a := g2.1
          have g2b := g2.2
          have hd1 : decide (x ≤ 57) = false ∨ decide (48 ≤ x) = false := by
            by_cases h : 48 ≤ x
            · exact .inl (by simp; omega)
            · exact .inr (by simp; omega)
          clear g2
          have H95 : (x == 95) = false := by
            rw [beq_eq_false_iff_ne]; rintro rfl
            have : lwI 95 = 127 := by decide +kernel
            omega
          by_cases g3 : lwI x - 87 < 10
          · have HS := Lib.hid (cbd_step 10 acc (lwI x - 87) (by omega) k (by omega) ha0 ha1 (by omega) (by omega))
            generalize hy : lwI x = y at *
            have Hy := Lib.hid hy
            clear hy
            rcases hd1 with hd1 | hd1
            all_goals
              clear g1
              go_wp2_with (first | (go_at_call 215; refine (lower_calls _ _).mono ?_; rintro e w' ⟨rfl, rfl⟩; rw [Hy.out]))
              all_goals go_round
              all_goals try (case measure => simp [intOf]; omega)
              all_goals
                refine ⟨k + 1, acc * 10 + (y - 87), by omega, rfl, ?_, by go_num, HS.out.1, HS.out.2, ?_⟩
                · first | rfl | (congr 1; omega) | (congr 1; done)
                · rw [Hid, HN.out, HD.out]
                  simp only [numF, ← Hx.out, HG.out]
                  rw [if_pos (by omega)]
          · have HR := Lib.hid (show numF 10 0 s.data.toList = none by
              rw [HN.out, HD.out]
              simp only [numF, ← Hx.out, HG.out]
              rw [if_neg (by omega)])
            generalize hy : lwI x = y at *
            have Hy := Lib.hid hy
            clear hy
            rcases hd1 with hd1 | hd1
            all_goals
              clear g1
              go_wp2_with (first | (go_at_call 215; refine (lower_calls _ _).mono ?_; rintro e w' ⟨rfl, rfl⟩; rw [Hy.out]))
              all_goals go_ret2
              all_goals rw [HR.out]
              all_goals exact ⟨rfl, hlw⟩
        · have HG := Lib.hid (show digI x = none by simp [digI, g1, g2])
          have HR := Lib.hid (show numF 10 0 s.data.toList = none by
            rw [HN.out, HD.out]
            simp only [numF, ← Hx.out, HG.out])
          have hd1 : decide (x ≤ 57) = false ∨ decide (48 ≤ x) = false := by
            by_cases h : 48 ≤ x
            · exact .inl (by simp; omega)
            · exact .inr (by simp; omega)
          have hd2 : decide (lwI x ≤ 122) = false ∨ decide (97 ≤ lwI x) = false := by
            by_cases h : 97 ≤ lwI x
            · exact .inl (by simp; omega)
            · exact .inr (by simp; omega)
          clear g1 g2
          generalize hy : lwI x = y at *
          have Hy := Lib.hid hy
          clear hy
          obtain ⟨b95, H95⟩ : ∃ b, (x == 95) = b := ⟨_, rfl⟩
          cases b95 <;> rcases hd1 with hd1 | hd1 <;> rcases hd2 with hd2 | hd2
          all_goals
            go_wp2_with (first | (go_at_call 215; refine (lower_calls _ _).mono ?_; rintro e w' ⟨rfl, rfl⟩; rw [Hy.out]))
            all_goals go_ret2
            all_goals rw [HR.out]
            all_goals exact ⟨rfl, hlw⟩
    · have hk' : k = s.size := by omega
      have HR := Lib.hid (show numF 10 0 s.data.toList = some acc by
        rw [HN.out, List.drop_of_length_le (by rw [HL.out]; omega)]; rfl)
      clear hk'
      go_wp2
      go_ret2
      rw [HR.out]
      exact ⟨rfl, hlw⟩

set_option maxHeartbeats 8000000 in
set_option maxRecDepth 100000 in
theorem parseUint16_calls (s : ByteArray) (h1 : 1 ≤ s.size) (h4 : s.size ≤ 4) (w : World) :
    Calls Tryz.prog 198 #[.string s, .int .i64 16, .int .i64 32] w fun e w' => e = .returned (uAns (numF 16 0 s.data.toList)) ∧ Low w.heap.size w w' := by
  have hs : s.toList.isEmpty = false := by
    rw [ByteArray.toList_eq, List.isEmpty_eq_false_iff]; intro h
    have : s.size = 0 := by rw [← ByteArray.size_data, ← Array.length_toList, h]; rfl
    omega
  obtain ⟨W1, cp, hcv, hbt, hlw, hsz, -⟩ := conv_str w s
  have hl : s.data.toList.length = s.size := by rw [Array.length_toList]; rfl
  have HL := Lib.hid hl
  clear hl
  go_enter Tryz.func198, Tryz.ntmps198
  go_wp2
  go_loop [12, 13, 101] (fun u n i => ∃ (k : Nat) (acc : Int), k ≤ s.size ∧ u = .bool false ∧ n = .int .u64 acc ∧ i = .int .i64 k ∧ 0 ≤ acc ∧ acc ≤ cbd k ∧ Hid (numF 16 0 s.data.toList = numF 16 acc (s.data.toList.drop k))) (fun _ _ i => s.size - (intOf i).toNat)
  case atStart => exact ⟨0, 0, by omega, rfl, rfl, rfl, by omega, by decide, rfl⟩
  case round =>
    obtain ⟨k, acc, hk, rfl, rfl, rfl, ha0, ha1, HN⟩ := hrel
    by_cases hlt : k < s.size
    · have hlt' : k < s.data.toList.length := by rw [HL.out]; exact hlt
      have hc := hbt.at0 k hlt'
      have hcb := cbd_lt k (by omega)
      have r0 := (s.data.toList[k]).toNat_lt
      have HD := Lib.hid (List.drop_eq_getElem_cons hlt')
      have hx0 : 0 ≤ ((s.data.toList[k]).toNat : Int) ∧ ((s.data.toList[k]).toNat : Int) ≤ 255 := by omega
      have HX : ∃ x : Int, x = ((s.data.toList[k]).toNat : Int) := ⟨_, rfl⟩
      obtain ⟨x, hx⟩ := HX
      rw [← hx] at hc hx0
      have hx0a := hx0.1
      have hx0b := hx0.2
      have hxl := lwI_range ⟨x.toNat, by omega⟩
      have hxe : ((⟨x.toNat, by omega⟩ : Fin 256).val : Int) = x := by simp; omega
      rw [hxe] at hxl
      have hxla := hxl.1
      have hxlb := hxl.2
      have Hx := Lib.hid hx
      clear hx hxe hx0 hxl r0
      by_cases g1 : 48 ≤ x ∧ x ≤ 57
      · have HG := Lib.hid (show digI x = some (x - 48) by simp [digI, g1])
        have g1a := g1.1
        have g1b := g1.2
        clear g1
        have HS := Lib.hid (cbd_step 16 acc (x - 48) (by omega) k (by omega) ha0 ha1 (by omega) (by omega))
        go_wp2
        go_round
        case rel =>
          refine ⟨k + 1, acc * 16 + (x - 48), by omega, rfl, rfl, by go_num, HS.out.1, HS.out.2, ?_⟩
          rw [Hid, HN.out, HD.out]
          simp only [numF, ← Hx.out, HG.out]
          rw [if_pos (by omega)]
        case measure => simp [intOf]; omega
      · by_cases g2 : 97 ≤ lwI x ∧ lwI x ≤ 122
        · have HG := Lib.hid (show digI x = some (lwI x - 87) by simp [digI, g1, g2])
          have g2a := g2.1
          have g2b := g2.2
          have hd1 : decide (x ≤ 57) = false ∨ decide (48 ≤ x) = false := by
            by_cases h : 48 ≤ x
            · exact .inl (by simp; omega)
            · exact .inr (by simp; omega)
          clear g2
          have H95 : (x == 95) = false := by
            rw [beq_eq_false_iff_ne]; rintro rfl
            have : lwI 95 = 127 := by decide +kernel
            omega
          by_cases g3 : lwI x - 87 < 16
          · have HS := Lib.hid (cbd_step 16 acc (lwI x - 87) (by omega) k (by omega) ha0 ha1 (by omega) (by omega))
            generalize hy : lwI x = y at *
            have Hy := Lib.hid hy
            clear hy
            rcases hd1 with hd1 | hd1
            all_goals
              clear g1
              go_wp2_with (first | (go_at_call 215; refine (lower_calls _ _).mono ?_; rintro e w' ⟨rfl, rfl⟩; rw [Hy.out]))
              all_goals go_round
              all_goals try (case measure => simp [intOf]; omega)
              all_goals
                refine ⟨k + 1, acc * 16 + (y - 87), by omega, rfl, ?_, by go_num, HS.out.1, HS.out.2, ?_⟩
                · first | rfl | (congr 1; omega) | (congr 1; done)
                · rw [Hid, HN.out, HD.out]
                  simp only [numF, ← Hx.out, HG.out]
                  rw [if_pos (by omega)]
          · have HR := Lib.hid (show numF 16 0 s.data.toList = none by
              rw [HN.out, HD.out]
              simp only [numF, ← Hx.out, HG.out]
              rw [if_neg (by omega)])
            generalize hy : lwI x = y at *
            have Hy := Lib.hid hy
            clear hy
            rcases hd1 with hd1 | hd1
            all_goals
              clear g1
              go_wp2_with (first | (go_at_call 215; refine (lower_calls _ _).mono ?_; rintro e w' ⟨rfl, rfl⟩; rw [Hy.out]))
              all_goals go_ret2
              all_goals rw [HR.out]
              all_goals exact ⟨rfl, hlw⟩
        · have HG := Lib.hid (show digI x = none by simp [digI, g1, g2])
          have HR := Lib.hid (show numF 16 0 s.data.toList = none by
            rw [HN.out, HD.out]
            simp only [numF, ← Hx.out, HG.out])
          have hd1 : decide (x ≤ 57) = false ∨ decide (48 ≤ x) = false := by
            by_cases h : 48 ≤ x
            · exact .inl (by simp; omega)
            · exact .inr (by simp; omega)
          have hd2 : decide (lwI x ≤ 122) = false ∨ decide (97 ≤ lwI x) = false := by
            by_cases h : 97 ≤ lwI x
            · exact .inl (by simp; omega)
            · exact .inr (by simp; omega)
          clear g1 g2
          generalize hy : lwI x = y at *
          have Hy := Lib.hid hy
          clear hy
          obtain ⟨b95, H95⟩ : ∃ b, (x == 95) = b := ⟨_, rfl⟩
          cases b95 <;> rcases hd1 with hd1 | hd1 <;> rcases hd2 with hd2 | hd2
          all_goals
            go_wp2_with (first | (go_at_call 215; refine (lower_calls _ _).mono ?_; rintro e w' ⟨rfl, rfl⟩; rw [Hy.out]))
            all_goals go_ret2
            all_goals rw [HR.out]
            all_goals exact ⟨rfl, hlw⟩
    · have hk' : k = s.size := by omega
      have HR := Lib.hid (show numF 16 0 s.data.toList = some acc by
        rw [HN.out, List.drop_of_length_le (by rw [HL.out]; omega)]; rfl)
      clear hk'
      go_wp2
      go_ret2
      rw [HR.out]
      exact ⟨rfl, hlw⟩

end Go.Proofs.YtcognpibphpadaaGreatDoor
