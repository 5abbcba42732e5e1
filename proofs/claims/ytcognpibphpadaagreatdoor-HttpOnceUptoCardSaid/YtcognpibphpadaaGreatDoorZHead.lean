/- Package head: Alike, Lower. -/
import Derived.Test.YtcognpibphpadaaGreatDoorZFoldb
set_option linter.unusedVariables false
set_option linter.unusedSimpArgs false
namespace Go.Proofs.YtcognpibphpadaaGreatDoor
open Go.RowKit

def alike (a b : B) : Bool := match foldF a, foldF b with
  | some x, some y => x == y
  | _, _ => false

set_option maxHeartbeats 8000000 in
set_option maxRecDepth 100000 in
theorem alike_calls (a b : ByteArray) (w : World) : Calls Tryz.prog 121 #[.string a, .string b] w fun e w' => e = .returned (.bool (alike a.data.toList b.data.toList)) ∧ Low w.heap.size w w' := by
  have HA := Lib.hid (folded_calls a)
  have HB := Lib.hid (folded_calls b)
  have HR := Lib.hid (show alike a.data.toList b.data.toList = (match foldF a.data.toList, foldF b.data.toList with | some x, some y => x == y | _, _ => false) from rfl)
  generalize foldF a.data.toList = ra at HA HR
  generalize foldF b.data.toList = rb at HB HR
  cases ra <;> cases rb
  all_goals
    go_enter Tryz.func121, Tryz.ntmps121
    go_wp2_with fail
    refine (HA.out _).mono ?_; rintro e w1 ⟨rfl, hl1⟩; simp only [fAns]
    go_wp2_with fail
    refine (HB.out _).mono ?_; rintro e w2 ⟨rfl, hl2⟩; simp only [fAns]
    go_wp2
    go_ret
    rw [HR.out]
    refine ⟨?_, hl1.trans (hl2.mono hl1.size)⟩
    first
      | rfl
      | (simp only [bs_list]; rfl)

def lowB (c : UInt8) : UInt8 := if 65 ≤ c.toNat ∧ c.toNat ≤ 90 then c + 32 else c
theorem lowB_toNat (c : UInt8) : ((lowB c).toNat : Int) = if 65 ≤ (c.toNat : Int) ∧ (c.toNat : Int) ≤ 90 then (c.toNat : Int) + 32 else c.toNat := by
  unfold lowB
  have := c.toNat_lt
  split
  · rw [if_pos (by omega)]; rw [UInt8.toNat_add]; show ((_ % 256 : Nat) : Int) = _; have : (32 : UInt8).toNat = 32 := rfl; omega
  · rw [if_neg (by omega)]
/-- The row, when k bytes are made small. -/
structure LRow (w : World) (g k : Nat) (l : B) : Prop where
  out : ∀ (j : Nat) (h : j < l.length), w.cell? ⟨g, j, none⟩ = some (.int .u8 (((if j < k then lowB l[j] else l[j]) : UInt8).toNat : Int)) ∧ w.frozen? ⟨g, j, none⟩ = false

set_option maxHeartbeats 8000000 in
set_option maxRecDepth 100000 in
theorem lower_calls2 (s : ByteArray) (w : World) (hmx : s.size ≤ 1048576) : Calls Tryz.prog 112 #[.string s] w fun e w' => e = .returned (.string (bs (s.data.toList.map lowB))) ∧ Low w.heap.size w w' := by
  obtain ⟨W1, cp, hcv, hbt, hlw, hsz, hfz⟩ := conv_str w s
  have HSL := Lib.hid (show s.data.toList.length = s.size by rw [Array.length_toList]; rfl)
  have HR : LRow W1 w.heap.size 0 s.data.toList := ⟨fun j hj => ⟨by rw [hbt.at0 j hj]; rfl, hfz j (by rw [← HSL.out]; exact hj)⟩⟩
  clear hbt hfz
  go_enter Tryz.func112, Tryz.ntmps112
  go_wp2
  go_loopw [4, 5, 10] (fun _ _ i wr => ∃ k : Nat, k ≤ s.size ∧ i = .int .i64 k ∧ LRow wr w.heap.size k s.data.toList ∧ Low w.heap.size w wr) (fun _ _ i _ => s.size - (intOf i).toNat)
  case atStart => exact ⟨0, by omega, rfl, HR, hlw⟩
  case round =>
    clear HR hlw
    obtain ⟨k, hk, rfl, HR, hlw⟩ := hrel
    by_cases hlt : k < s.size
    · have hl : k < s.data.toList.length := by rw [HSL.out]; exact hlt
      obtain ⟨hc, hf⟩ := HR.out k hl
      rw [if_neg (by omega)] at hc
      have hx := (s.data.toList[k]).toNat_lt
      have hlo := lowB_toNat (s.data.toList[k])
      obtain ⟨x, hxe⟩ : ∃ x : Int, ((s.data.toList[k]).toNat : Int) = x := ⟨_, rfl⟩
      rw [hxe] at hc hlo
      have hx0 : 0 ≤ x := by omega
      have hx1 : x ≤ 255 := by omega
      have HL := Lib.hid hlo
      have HX := Lib.hid hxe
      clear hlo hxe hx
      by_cases hu : 65 ≤ x ∧ x ≤ 90
      · have hu0 := hu.1
        have hu1 := hu.2
        have HU := Lib.hid hu
        have HS := Lib.hid (World.cell?_setCell_same' wr ⟨w.heap.size, k, none⟩ (.int .u8 (x + 97 - 65)) (by rw [hc]; rfl))
        clear hu
        go_wp2
        refine ⟨⟨k + 1, by omega, by go_num, ⟨fun j hj => ?_⟩, hlw.setCell (Nat.le_refl _) _⟩, by simp [intOf]; omega⟩
        by_cases e : j = k
        · subst e
          rw [if_pos (by omega), World.frozen?_setCell]
          have h1 := HL.out
          rw [if_pos HU.out] at h1
          refine ⟨?_, hf⟩
          rw [HS.out, h1]
          congr 2
          omega
        · have h1 := HR.out j hj
          rw [World.frozen?_setCell, World.cell?_setCell_other _ _ _ _ (by first | (simp; done) | (simp; omega))]
          by_cases e2 : j < k
          · rw [if_pos e2] at h1; rw [if_pos (by omega)]; exact h1
          · rw [if_neg e2] at h1; rw [if_neg (by omega)]; exact h1
      · go_wp2
        all_goals
          refine ⟨⟨k + 1, by omega, by go_num, ⟨fun j hj => ?_⟩, hlw⟩, by simp [intOf]; omega⟩
          by_cases e : j = k
          · subst e
            rw [if_pos (by omega)]
            have h1 := HL.out
            rw [if_neg hu, ← HX.out] at h1
            rw [h1, HX.out]
            exact ⟨hc, hf⟩
          · have h1 := HR.out j hj
            by_cases e2 : j < k
            · rw [if_pos e2] at h1; rw [if_pos (by omega)]; exact h1
            · rw [if_neg e2] at h1; rw [if_neg (by omega)]; exact h1
    · have hk' : k = s.size := by omega
      have HBT : Bts wr (some ⟨w.heap.size, 0, none⟩) (s.data.toList.map lowB) := ⟨fun j hj => by
        have hj' : j < s.data.toList.length := by simpa using hj
        have h1 := (HR.out j hj').1
        rw [if_pos (by rw [hk', ← HSL.out]; exact hj')] at h1
        exact ⟨_, rfl, by rw [add0, h1]; simp⟩⟩
      have HLl : (s.data.toList.map lowB).length = s.size := by rw [List.length_map]; exact HSL.out
      have hcv2 := HBT.conv cp
      rw [HLl] at hcv2
      clear hk' HLl
      go_wp2
      go_ret
      exact ⟨rfl, hlw⟩
end Go.Proofs.YtcognpibphpadaaGreatDoor
