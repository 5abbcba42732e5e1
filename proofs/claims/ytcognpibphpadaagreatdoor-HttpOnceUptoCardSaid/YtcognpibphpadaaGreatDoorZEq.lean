/- Messages are compared: bytes.Equal, slices.Equal of headers, head.Same, http.Same. -/
import Derived.Test.YtcognpibphpadaaGreatDoorZChk
import Derived.Laws.StructEq
set_option linter.unusedVariables false
set_option linter.unusedSimpArgs false
namespace Go.Proofs.YtcognpibphpadaaGreatDoor
open Go.RowKit

theorem equal_calls (A A2 : Option Addr) (a b : B) (c c2 : Nat) (w : World) (ha : Bts w A a) (hb : Bts w A2 b) :
    Calls Tryz.prog 75 #[.slice A a.length c, .slice A2 b.length c2] w fun e w' => e = .returned (.bool (a == b)) ∧ w' = w := by
  have h1 := ha.conv c
  have h2 := hb.conv c2
  generalize a.length = n at h1 ⊢
  generalize b.length = n2 at h2 ⊢
  go_enter Tryz.func75, Tryz.ntmps75
  go_wp2
  go_ret
  refine ⟨?_, rfl⟩
  show Ending.returned (.bool ((bs a).toList == (bs b).toList)) = _
  rw [bs_list, bs_list]
theorem eq33 (x1 x2 y1 y2 : B) (W : World) : (Op.equalIn 10000 33 (.agg #[.string (bs x1), .string (bs x2)]) (.agg #[.string (bs y1), .string (bs y2)])).run Tryz.prog W = .ok (decide ((x1, x2) = (y1, y2))) W := by
  have h1 : Tryz.prog.underlying 33 = some (.struct (Tryz.prog.fieldsOf 33)) := by kernel_rfl
  have h2 : Tryz.prog.stoodInHeld 33 = false := by kernel_rfl
  have h3 : (Tryz.prog.fieldsOf 33).toList.map (fun f => (f.type, f.offset, f.name == "_")) = [(9, 0, false), (9, 1, false)] := by kernel_rfl
  rw [run_equalIn_agg W 9999 33 _ _ h1 h2]
  have u9 := Tryz.underlying9
  have hs9 : ∀ W : World, (sizeOf 9).run Tryz.prog W = .ok 1 W := fun W => by kernel_rfl
  obtain ⟨f1, r1, hm, g1, h4⟩ := List.map_eq_cons_iff.1 h3
  obtain ⟨f2, r2, rfl, g2, h5⟩ := List.map_eq_cons_iff.1 h4
  have h6 : r2 = [] := by simpa using h5
  subst h6
  simp only [Prod.mk.injEq, beq_eq_false_iff_ne] at g1 g2
  obtain ⟨a1, a2, a3⟩ := g1
  obtain ⟨b1, b2, b3⟩ := g2
  have e : ∀ a b : B, ((bs a).toList == (bs b).toList) = decide (a = b) := fun a b => by
    rw [bs_list, bs_list]
    by_cases h : a = b <;> simp [h]
  rw [hm]
  simp [Op.eqFields, a1, a2, a3, b1, b2, b3, part, hs9, run_equalIn_string W _ _ _ _ u9, e]
  by_cases q : x1 = y1 <;> by_cases q2 : x2 = y2 <;> simp [q, q2, hs9, run_equalIn_string W _ _ _ _ u9, e]
theorem guard33 (op : BinOp) (x y : Operand) (xs ys : Array Value) (W : World) : (eqGuard op 33 x y (.agg xs) (.agg ys)).run Tryz.prog W = .ok () W := run_eqGuard_agg W op 33 x y xs ys (by kernel_rfl)
theorem bs_inj {a b : B} (h : bs a = bs b) : a = b := by rw [← bs_data a, ← bs_data b, h]
theorem take_succ_eq {a b : List Hd} {k : Nat} (h1 : k < a.length) (h2 : k < b.length) : (a.take (k + 1) = b.take (k + 1)) ↔ (a.take k = b.take k ∧ a[k] = b[k]) := by
  rw [← List.take_append_getElem h1, ← List.take_append_getElem h2]
  constructor
  · intro h
    have := List.append_inj h (by simp; omega)
    exact ⟨this.1, by simpa using this.2⟩
  · rintro ⟨h3, h4⟩
    rw [h3, h4]
set_option maxHeartbeats 4000000 in
set_option maxRecDepth 100000 in
theorem eqHeads_calls (A A2 : Option Addr) (a b : List Hd) (c c2 : Nat) (w : World) (ha : Hds w A a) (hb : Hds w A2 b) (hla : a.length ≤ 1000000) (hlb : b.length ≤ 1000000) :
    Calls Tryz.prog 126 #[.slice A a.length c, .slice A2 b.length c2] w fun e w' => e = .returned (.bool (decide (a = b))) ∧ Low w.heap.size w w' := by
  obtain ⟨n, hn⟩ : ∃ n, a.length = n := ⟨_, rfl⟩
  obtain ⟨n2, hn2⟩ : ∃ n, b.length = n := ⟨_, rfl⟩
  rw [hn, hn2]
  have HN := Lib.hid hn
  have HN2 := Lib.hid hn2
  clear hn hn2
  have hn6 : n ≤ 1000000 := by have := HN.out; omega
  have HA := Lib.hid ha
  have HB := Lib.hid hb
  clear ha hb hla hlb
  by_cases hne : n = n2
  · subst hne
    have b1 : ((n : Int) == (n : Int)) = true := by simp
    go_enter Tryz.func126, Tryz.ntmps126
    go_wp2
    go_loopw [5, 13] (fun _ i wr => ∃ k : Nat, k ≤ n ∧ i = .int .i64 k ∧ Low w.heap.size w wr ∧ Hid (a.take k = b.take k)) (fun _ i _ => n - (intOf i).toNat)
    case atStart => exact ⟨0, by omega, rfl, Low.refl _ _, by simp [Hid]⟩
    case round =>
      obtain ⟨k, hk, rfl, hlw, HT⟩ := hrel
      by_cases hlt : k < n
      · have d : decide ((k : Int) < (n : Int)) = true := by simp; omega
        have i0 : (0 : Int) ≤ (k : Int) := by omega
        have i1 : (k : Int) < (n : Int) := by omega
        have hka : k < a.length := by rw [HN.out]; exact hlt
        have hkb : k < b.length := by rw [HN2.out]; exact hlt
        obtain ⟨ad, rfl, h0, h1⟩ := (HA.out.low hlw (Nat.le_refl _)).out k hka
        obtain ⟨ad2, rfl, g0, g1⟩ := (HB.out.low hlw (Nat.le_refl _)).out k hkb
        have HE := Lib.hid (take_succ_eq hka hkb)
        generalize a[k] = x at h0 h1 HE
        generalize b[k] = y at g0 g1 HE
        obtain ⟨x1, x2⟩ := x
        obtain ⟨y1, y2⟩ := y
        simp only at h0 h1 g0 g1
        clear hka hkb
        go_wp2_with fail
        have q1 := fun W => eq33 x1 x2 y1 y2 W
        have q2 := fun op x y xs ys W => guard33 op x y xs ys W
        have Hq : Hid (decide ((x1, x2) = (y1, y2)) = true ↔ (x1, x2) = (y1, y2)) := Lib.hid (by simp)
        generalize (decide ((x1, x2) = (y1, y2))) = dq at q1 Hq
        go_quiet (fail)
        cases dq
        · go_wp2
          go_ret
          refine ⟨?_, hlw.drewN nq⟩
          have h1 := Hq.out
          have h2 : ¬ a = b := fun e => by
            subst e
            have := HE.out.1 rfl
            exact absurd (h1.2 this.2) (by simp)
          simp [h2]
        · go_wp2_with fail
          go_roundw
          case rel => exact ⟨k + 1, by omega, by go_num, hlw.drewN nq, HE.out.2 ⟨HT.out, Hq.out.1 rfl⟩⟩
          case measure => simp [intOf]; omega
      · have d : decide ((k : Int) < (n : Int)) = false := by simp; omega
        go_wp2
        go_ret
        refine ⟨?_, hlw⟩
        have hkn : k = n := by omega
        subst hkn
        have e1 := HT.out
        rw [List.take_of_length_le (Nat.le_of_eq HN.out), List.take_of_length_le (Nat.le_of_eq HN2.out)] at e1
        simp [e1]
  · have b1 : ((n : Int) == (n2 : Int)) = false := by simp; omega
    have b2 : ¬ ((n : Int) = (n2 : Int)) := by omega
    go_enter Tryz.func126, Tryz.ntmps126
    go_wp2
    go_ret
    refine ⟨?_, Low.refl _ _⟩
    have : ¬ a = b := fun e => hne (by rw [← HN.out, ← HN2.out, e])
    simp [this]
set_option maxHeartbeats 4000000 in
set_option maxRecDepth 100000 in
theorem headSame_calls (A A2 : Option Addr) (a b : List Hd) (c c2 : Nat) (w : World) (ha : Hds w A a) (hb : Hds w A2 b) (hla : a.length ≤ 1000000) (hlb : b.length ≤ 1000000) :
    Calls Tryz.prog 74 #[.slice A a.length c, .slice A2 b.length c2] w fun e w' => e = .returned (.bool (decide (a = b))) ∧ Low w.heap.size w w' := by
  have H := Lib.hid (eqHeads_calls A A2 a b c c2 w ha hb hla hlb)
  generalize decide (a = b) = d at H ⊢
  go_enter Tryz.func74, Tryz.ntmps74
  go_wp2_with (first | (go_at_call 126; refine H.out.mono ?_; rintro e w2 ⟨rfl, hl2⟩))
  go_ret
  exact ⟨rfl, hl2⟩
/-- http.Same. -/
def sameM (m k : Msg) : Bool := m.me == k.me && m.pa == k.pa && m.st == k.st && decide (m.hs = k.hs) && m.body == k.body
theorem same_refl (m : Msg) : sameM m m = true := by simp [sameM]
end Go.Proofs.YtcognpibphpadaaGreatDoor
