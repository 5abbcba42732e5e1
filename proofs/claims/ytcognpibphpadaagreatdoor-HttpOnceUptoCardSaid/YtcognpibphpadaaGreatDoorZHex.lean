/- strconv.AppendInt at base 16. -/
import Derived.Test.YtcognpibphpadaaGreatDoorZWrit
set_option linter.unusedVariables false
set_option linter.unusedSimpArgs false
namespace Go.Proofs.YtcognpibphpadaaGreatDoor
open Go.RowKit

/-- What is read of the table of math/bits. -/
structure TabD (w : World) : Prop where
  out : w.cell? ⟨9, 15, none⟩ = some (.int .u8 4)
theorem TabD.low {w w1 : World} (h : TabD w) {b : Nat} (hl : Low b w w1) (hb : 9 < b) : TabD w1 := ⟨(hl.cell (p := ⟨9, 15, none⟩) hb).trans h.out⟩
theorem TabD.lt {w : World} (h : TabD w) : 9 < w.heap.size := World.block_lt_of_cell? w ⟨9, 15, none⟩ h.out
set_option maxHeartbeats 1000000 in
set_option maxRecDepth 100000 in
theorem zeros64_calls (w : World) (h : TabD w) : Calls Tryz.prog 212 #[.int .u64 16] w fun e w' => e = .returned (.int .i64 4) ∧ w' = w := by
  have h0 := h.out
  have e1 : IntKind.u64.wrap (-16) = 18446744073709551600 := by kernel_rfl
  have e2 : bits BinOp.and IntKind.u64 16 18446744073709551600 = 16 := by kernel_rfl
  have e3 : IntKind.u64.wrap 4573923408821661840 = 4573923408821661840 := by kernel_rfl
  go_enter Tryz.func212, Tryz.ntmps212
  go_wp2_with fail
  go_ret
  exact ⟨rfl, rfl⟩
set_option maxHeartbeats 1000000 in
set_option maxRecDepth 100000 in
theorem pow2_calls (w : World) : Calls Tryz.prog 193 #[.int .i64 16] w fun e w' => e = .returned (.bool true) ∧ w' = w := by
  have e1 : bits BinOp.and IntKind.i64 16 15 = 0 := by kernel_rfl
  go_enter Tryz.func193, Tryz.ntmps193
  go_wp2_with fail
  go_ret
  exact ⟨rfl, rfl⟩
set_option maxHeartbeats 1000000 in
set_option maxRecDepth 100000 in
theorem zeros_calls (w : World) (h : TabD w) : Calls Tryz.prog 194 #[.int .u64 16] w fun e w' => e = .returned (.int .i64 4) ∧ w' = w := by
  have HZ := Lib.hid (zeros64_calls w h)
  go_enter Tryz.func194, Tryz.ntmps194
  go_wp2_with (first | (go_at_call 212; refine HZ.out.mono ?_; rintro e w2 ⟨rfl, rfl⟩))
  go_ret
  exact ⟨rfl, rfl⟩
/-- The row of digits: what its last cells hold. -/
structure A65 (W : World) (g : Nat) (ds : B) : Prop where
  row : ∃ cs, W.heap[g]? = some (.cells cs 205 (0, 0)) ∧ cs.size = 65
  le : ds.length ≤ 65
  held : ∀ k (h : k < ds.length), W.cell? ⟨g, 65 - ds.length + k, none⟩ = some (.int .u8 (ds[k].toNat : Int))
theorem A65.free {W : World} {g : Nat} {ds : B} (h : A65 W g ds) (k : Nat) : W.frozen? ⟨g, k, none⟩ = false := by
  obtain ⟨cs, hc, _⟩ := h.row
  exact frozen_of_row W g k _ _ hc
theorem A65.lt {W : World} {g : Nat} {ds : B} (h : A65 W g ds) : g < W.heap.size := by
  obtain ⟨cs, hc, _⟩ := h.row
  exact (Array.getElem?_eq_some_iff.1 hc).1
theorem A65.any {W : World} {g : Nat} {ds : B} (h : A65 W g ds) (k : Nat) (hk : k < 65) : ∃ v, W.cell? ⟨g, k, none⟩ = some v := by
  obtain ⟨cs, hc, hs⟩ := h.row
  refine ⟨cs[k], ?_⟩
  rw [cell_of_row W g k _ _ _ hc]
  simp
theorem A65.start (w : World) : A65 (w.alloc (.cells Tryz.zeroCells205 205)) w.heap.size [] := ⟨⟨_, heap_alloc_new w _, by kernel_rfl⟩, by simp, fun k hk => by cases hk⟩
theorem A65.bts {W : World} {g : Nat} {ds : B} (h : A65 W g ds) : Bts W (some ⟨g, 65 - ds.length, none⟩) ds := ⟨fun j hj => ⟨_, rfl, by
  have := h.held j hj
  have e : (⟨g, 65 - ds.length, none⟩ : Addr).add j = ⟨g, 65 - ds.length + j, none⟩ := by unfold Addr.add; split <;> simp_all
  rw [e]
  exact this⟩⟩
theorem A65.bts2 {W : World} {g : Nat} {ds : B} (h : A65 W g ds) (i : Nat) (hi : i + ds.length = 65) : Bts W (some ⟨g, i, none⟩) ds := by
  have e : i = 65 - ds.length := by omega
  rw [e]; exact h.bts
theorem A65.store {W : World} {g : Nat} {ds : B} (h : A65 W g ds) (d : UInt8) (i : Nat) (hi : i + ds.length + 1 = 65) : A65 (W.setCell ⟨g, i, none⟩ (.int .u8 (d.toNat : Int))) g (d :: ds) := by
  obtain ⟨cs, hc, hs⟩ := h.row
  have h1 := heap_setCell_same W g i _ _ (.int .u8 (d.toNat : Int)) hc
  refine ⟨⟨_, h1, by simp [hs]⟩, (by rw [List.length_cons]; omega), fun k hk => ?_⟩
  rw [cell_of_row _ g _ _ _ _ h1]
  simp only [List.length_cons]
  cases k with
  | zero =>
    have e : 65 - (ds.length + 1) + 0 = i := by omega
    rw [e]
    have hi2 : i < cs.size := by omega
    simp [hi2]
  | succ k =>
    have hk2 : k < ds.length := by simpa using hk
    have e : 65 - (ds.length + 1) + (k + 1) = 65 - ds.length + k := by omega
    rw [e]
    have h2 := h.held k hk2
    rw [cell_of_row _ g _ _ _ _ hc] at h2
    have hne : i ≠ 65 - ds.length + k := by omega
    simpa [hne] using h2
theorem hexB_step (q : Nat) (h1 : 16 ≤ q) (h2 : q < 4096) : hexB q = hexB (q / 16) ++ [hx (q % 16)] := by
  unfold hexB
  by_cases h3 : q < 256
  · rw [if_neg (by omega), if_pos h3, if_pos (by omega)]; rfl
  · rw [if_neg (by omega), if_neg h3, if_neg (by omega), if_pos (by omega)]
    have e1 : q / 16 / 16 = q / 256 := by omega
    rw [e1]; rfl
theorem hx_at (k : Nat) (h : k < 16) : ∀ h2, (ByteArray.mk #[48, 49, 50, 51, 52, 53, 54, 55, 56, 57, 97, 98, 99, 100, 101, 102, 103, 104, 105, 106, 107, 108, 109, 110, 111, 112, 113, 114, 115, 116, 117, 118, 119, 120, 121, 122])[k]'h2 = hx k := by
  have hall : ∀ k : Fin 16, (#[48, 49, 50, 51, 52, 53, 54, 55, 56, 57, 97, 98, 99, 100, 101, 102, 103, 104, 105, 106, 107, 108, 109, 110, 111, 112, 113, 114, 115, 116, 117, 118, 119, 120, 121, 122] : Array UInt8)[k.val]? = some (hx k.val) := by decide
  intro h2
  have h3 := hall ⟨k, h⟩
  obtain ⟨_, h4⟩ := Array.getElem?_eq_some_iff.1 h3
  exact h4
/-- 'append(bytes, bytes...)'. -/
theorem wpList_bts {w : World} {ops : Array Oper} {rest : List Oper} {o : Oper} {a : Act} {Q : Exit → Act → World → Prop} (b : Nat) (v : Value) (l x : B) (ad : Addr) (m c : Nat) (so xo : Operand)
    (hown : BOwn w b v l) (hx : Bts w (some ad) x) (hm : m = x.length) (hw : Region.wanted o (yielded ops a.tmps) = true) (ho : o.op = .call { callee := .builtin .append, args := #[so, xo], argTypes := #[23, 23] }) (hs : a.eval so = v) (hxo : a.eval xo = .slice (some ad) m c)
    (hl : l.length + x.length ≤ 1000000) (hb : b ≤ w.heap.size)
    (h' : ∀ v' w', BOwn w' b v' (l ++ x) → w.grownBy w' v.ownBlock → wpList Tryz.prog ops Q rest (a.put o.dst v') w') :
    wpList Tryz.prog ops Q (o :: rest) a w := by
  refine BigFrame.wpList_want hw fun K hK => ?_
  subst hm
  obtain ⟨A', cap, w', hr, hO, hg, _⟩ := run_bytes o.type b v l x ad c hown hx hl hb
  unfold Oper.wp execOp
  simp only [ho, resolve, invoke, builtin, Sem.run_bind, Sem.run_pure, Result.andThen_ok, List.map_toArray, List.map_cons, List.map_nil, hs, hxo, hr]
  exact hK _ _ (h' _ w' hO hg)
theorem low_by {w wr w' : World} {row : Option Nat} (hL : Low w.heap.size w wr) (hg : wr.grownBy w' row) : w.grownBy w' row :=
  ⟨hg.os.trans hL.out.os, hg.tape.trans hL.out.tape, hg.output.trans hL.out.output, Nat.le_trans hL.size hg.size, fun k hk hne => (hg.block k (Nat.lt_of_lt_of_le hk hL.size) hne).trans (hL.out.block k hk)⟩
theorem heap_set_ne0 (w : World) (Bm k : Nat) (v : Value) (j : Nat) (hj : j ≠ Bm) : (w.setCell ⟨Bm, k, none⟩ v).heap[j]? = w.heap[j]? := Below.heap_setCell w _ _ j (fun e => hj (by simpa using e))
theorem slice205 (W : World) (g k m : Nat) (h : k + m = 65) (hm : 1 ≤ m) : (Instr.sliceAt 205 (.pointer (some ⟨g, 0, none⟩)) (some (.int .i64 (k : Int))) none none).run Tryz.prog W = .ok (.slice (some ⟨g, k, none⟩) m m) W := by
  have hL : Tryz.prog.arrayLen 205 = 65 := by kernel_rfl
  have hE : Tryz.prog.elem 205 = 5 := by kernel_rfl
  have h0 : (0 : Int) ≤ (k : Int) := by omega
  have h1 : (k : Int) ≤ (Tryz.prog.arrayLen 205 : Int) := by rw [hL]; omega
  rw [run_sliceAt_array_l W 205 ⟨g, 0, none⟩ (by rw [hL, hE]; exact Tryz.underlying205) .i64 (k : Int) h0 h1, hL, hE, size5]
  simp only [Result.andThen_ok, slicedAt, Int.toNat_natCast]
  have e1 : 65 - k = m := by omega
  rw [e1]
  rw [if_neg (by omega), add0, Nat.mul_one]
theorem and15 (q : Nat) (h : q < 4096) : bits BinOp.and IntKind.u64 (q : Int) 15 = ((q % 16 : Nat) : Int) := by
  have hall : ((List.range 4096).all fun q => bits BinOp.and IntKind.u64 (q : Int) 15 == ((q % 16 : Nat) : Int)) = true := by decide +kernel
  have := List.all_eq_true.1 hall q (List.mem_range.2 h)
  simpa using this
set_option maxHeartbeats 4000000 in
set_option maxRecDepth 100000 in
theorem fmt16_calls (n : Nat) (hn : n < 4096) (v : Value) (l : B) (b : Nat) (w : World) (hO : BOwn w b v l) (hl : l.length ≤ 100000) (hb : b ≤ w.heap.size) (h : TabD w) :
    Calls Tryz.prog 167 #[v, .int .u64 (n : Int), .int .i64 16, .bool false, .bool true] w fun e w' => ∃ v', e = .returned (.tuple #[v', .string ⟨#[]⟩]) ∧ BOwn w' b v' (l ++ hexB n) ∧ w.grownBy w' v.ownBlock := by
  have HP := Lib.hid pow2_calls
  have hl1 := (Low.refl w.heap.size w).alloc (Nat.le_refl _) (.cells Tryz.zeroCells205 205)
  have HZ := Lib.hid (zeros_calls _ (h.low hl1 h.lt))
  have HO := Lib.hid (hO.low hl1 (Nat.le_refl _))
  have HOx := Lib.hid (fun (k : Nat) (hk : v.ownBlock = some k) => (hO.out.lt k hk).2)
  have HA := Lib.hid (A65.start w)
  have HL := Lib.hid ((Low.refl w.heap.size w).alloc (Nat.le_refl _) (.cells Tryz.zeroCells205 205))
  have Hn := Lib.hid hn
  have Hl := Lib.hid hl
  have Hb := Lib.hid hb
  clear hO h hl1 hl hb
  go_enter Tryz.func167, Tryz.ntmps167
  go_wp2_with (first | (go_at_call 193; refine (HP.out _).mono ?_; rintro e w2 ⟨rfl, rfl⟩) | (go_at_call 194; refine HZ.out.mono ?_; rintro e w2 ⟨rfl, rfl⟩))
  go_loopw [1, 13] (fun u i wr => ∃ (q : Nat) (ds : B), u = .int .u64 (q : Int) ∧ i = .int .i64 ((65 - ds.length : Nat) : Int) ∧ ds.length ≤ 2 ∧ q < 16 ^ (3 - ds.length) ∧ Hid (A65 wr w.heap.size ds) ∧ Hid (BOwn wr b v l) ∧ Hid (Low w.heap.size w wr) ∧ Hid (hexB n = hexB q ++ ds)) (fun u _ _ => (intOf u).toNat)
  case atStart => exact ⟨n, [], rfl, rfl, by simp, hn, HA, HO, HL, Lib.hid (by simp)⟩
  case round =>
    obtain ⟨q, ds, rfl, rfl, hd2, hq, HAr, HOr, HLr, HE⟩ := hrel
    have hq2 : q < 4096 := Nat.lt_of_lt_of_le hq (Nat.pow_le_pow_right (by decide) (by omega) : 16 ^ (3 - ds.length) ≤ 16 ^ 3)
    have f0 : wr.frozen? ⟨w.heap.size, 65 - ds.length - 1, none⟩ = false := HAr.out.free _
    obtain ⟨v0, c0⟩ := HAr.out.any (65 - ds.length - 1) (by omega)
    have e15 := and15 q hq2
    have hg := HAr.out.lt
    by_cases h16 : 16 ≤ q
    · have d1 : decide ((16 : Int) ≤ (q : Int)) = true := by simp; omega
      have hd1 : ds.length ≤ 1 := by
        rcases Nat.lt_or_ge 1 ds.length with h | h
        · have : ds.length = 2 := by omega
          rw [this] at hq
          omega
        · exact h
      have HI := Lib.hid (hx_at (q % 16) (Nat.mod_lt _ (by decide)))
      have Hd1 := Lib.hid hd1
      have Hq := Lib.hid hq
      clear hq
      go_wp2_with fail
      refine ⟨⟨q / 16, hx (q % 16) :: ds, ?_, ?_, ?_, ?_, ?_, ?_, ?_, ?_⟩, ?_⟩
      · rw [show ((q / 16 : Nat) : Int) = (q : Int) / 16 by omega]
      · have := Hd1.out
        rw [List.length_cons]
        congr 1
        omega
      · have := Hd1.out
        rw [List.length_cons]; omega
      · have h1 := Hd1.out
        have h2 := Hq.out
        rw [List.length_cons]
        have h3 : ds.length = 0 ∨ ds.length = 1 := by omega
        rcases h3 with h3 | h3 <;> rw [h3] at h2 ⊢ <;> omega
      · rw [HI.out]
        exact Lib.hid (HAr.out.store _ _ (by omega))
      · exact Lib.hid (HOr.out.same fun k hk => heap_set_ne0 _ _ _ _ _ (fun e => by have := (HOx.out k hk); omega))
      · exact Lib.hid (HLr.out.setCell (Nat.le_refl _) _)
      · exact Lib.hid (by rw [HE.out, hexB_step q h16 hq2]; simp)
      · simp [intOf]; omega
    · have d1 : decide ((16 : Int) ≤ (q : Int)) = false := by simp; omega
      have hs205 : ∀ W : World, (Instr.sliceAt 205 (.pointer (some ⟨w.heap.size, 0, none⟩)) (some (.int .i64 (((65 - ds.length : Nat) : Int) - 1))) none none).run Tryz.prog W = .ok (.slice (some ⟨w.heap.size, 65 - ds.length - 1, none⟩) (ds.length + 1) (ds.length + 1)) W := fun W => by
        have e1 : ((65 - ds.length : Nat) : Int) - 1 = ((65 - ds.length - 1 : Nat) : Int) := by omega
        rw [e1]
        exact slice205 W w.heap.size (65 - ds.length - 1) (ds.length + 1) (by omega) (by omega)
      have HI := Lib.hid (hx_at q (by omega))
      go_wp2_with (at_builtin; refine wpList_bts b v l (hx q :: ds) ⟨w.heap.size, 65 - ds.length - 1, none⟩ _ _ _ _ (HOr.out.same fun k hk => heap_set_ne0 _ _ _ _ _ (fun e => by have := (HOx.out k hk); omega)) (by rw [HI.out]; exact (HAr.out.store (hx q) (65 - ds.length - 1) (by omega)).bts2 _ (by rw [List.length_cons]; omega)) (by rw [List.length_cons]) rfl rfl rfl rfl (by have := Hl.out; rw [List.length_cons]; omega) (by have := Hb.out; have := HLr.out.size; simp; omega) ?_; intro v' w' ho' hg'; have Ho := Lib.hid ho'; have Hg := Lib.hid (low_by (HLr.out.setCell (Nat.le_refl _) _) hg'); clear ho' hg')
      go_ret2
      have hq1 : hexB q = [hx q] := if_pos (by omega)
      refine ⟨v', rfl, ?_, Hg.out⟩
      have e := HE.out
      rw [hq1] at e
      rw [e]
      exact Ho.out
set_option maxHeartbeats 4000000 in
set_option maxRecDepth 100000 in
theorem uint16_calls (n : Nat) (hn : n < 4096) (v : Value) (l : B) (b : Nat) (w : World) (hO : BOwn w b v l) (hl : l.length ≤ 100000) (hb : b ≤ w.heap.size) (h : TabD w) :
    Calls Tryz.prog 161 #[v, .int .u64 (n : Int), .int .i64 16] w fun e w' => ∃ v', e = .returned v' ∧ BOwn w' b v' (l ++ hexB n) ∧ w.grownBy w' v.ownBlock := by
  have H := Lib.hid (fmt16_calls n hn v l b w hO hl hb h)
  clear hO hl hb h hn
  go_enter Tryz.func161, Tryz.ntmps161
  go_wp2_with (first | (go_at_call 167; refine H.out.mono ?_; rintro e w2 ⟨v', rfl, ho, hl2⟩; have HO := Lib.hid ho; have HL := Lib.hid hl2; clear ho hl2))
  go_ret
  exact ⟨v', rfl, HO.out, HL.out⟩
set_option maxHeartbeats 4000000 in
set_option maxRecDepth 100000 in
theorem int16_calls (n : Nat) (hn : n < 4096) (v : Value) (l : B) (b : Nat) (w : World) (hO : BOwn w b v l) (hl : l.length ≤ 100000) (hb : b ≤ w.heap.size) (h : TabD w) :
    Calls Tryz.prog 128 #[v, .int .i64 (n : Int), .int .i64 16] w fun e w' => ∃ v', e = .returned v' ∧ BOwn w' b v' (l ++ hexB n) ∧ w.grownBy w' v.ownBlock := by
  have H := Lib.hid (uint16_calls n hn v l b w hO hl hb h)
  have e1 : IntKind.u64.wrap (n : Int) = (n : Int) := by rw [IntKind.wrap_u64]; omega
  have d0 : decide ((n : Int) < 0) = false := by simp
  clear hO hl hb h hn
  go_enter Tryz.func128, Tryz.ntmps128
  go_wp2_with (first | (go_at_call 161; refine H.out.mono ?_; rintro e w2 ⟨v', rfl, ho, hl2⟩; have HO := Lib.hid ho; have HL := Lib.hid hl2; clear ho hl2))
  go_ret
  exact ⟨v', rfl, HO.out, HL.out⟩
set_option maxHeartbeats 4000000 in
set_option maxRecDepth 100000 in
/-- strconv.AppendInt at base 16. -/
theorem appendInt_calls (n : Nat) (hn : n < 4096) (v : Value) (l : B) (b : Nat) (w : World) (hO : BOwn w b v l) (hl : l.length ≤ 100000) (hb : b ≤ w.heap.size) (h : TabD w) :
    Calls Tryz.prog 77 #[v, .int .i64 (n : Int), .int .i64 16] w fun e w' => ∃ v', e = .returned v' ∧ BOwn w' b v' (l ++ hexB n) ∧ w.grownBy w' v.ownBlock := by
  have H := Lib.hid (int16_calls n hn v l b w hO hl hb h)
  clear hO hl hb h hn
  go_enter Tryz.func77, Tryz.ntmps77
  go_wp2_with (first | (go_at_call 128; refine H.out.mono ?_; rintro e w2 ⟨v', rfl, ho, hl2⟩; have HO := Lib.hid ho; have HL := Lib.hid hl2; clear ho hl2))
  go_ret
  exact ⟨v', rfl, HO.out, HL.out⟩
end Go.Proofs.YtcognpibphpadaaGreatDoor
