/- HttpOnce: of bytes that are read as a message no beginning is; with bytes behind them they are read as none. -/
import Derived.Test.YtcognpibphpadaaGreatDoorZBackW
import Derived.Test.YtcognpibphpadaaGreatDoorZCut
import Derived.Test.YtcognpibphpadaaGreatDoorZWorks
set_option linter.unusedVariables false
set_option linter.unusedSimpArgs false
namespace Go.Proofs.YtcognpibphpadaaGreatDoor
open Go.RowKit

theorem slice_to2 (ad : Option Addr) (n c k : Nat) (hk : k ≤ c) (W : World) : (Instr.slice 23 (.slice ad n c) none (some (.int .i64 (k : Int))) none).run Tryz.prog W = .ok (.slice ad k c) W := slice_to1 ad n c k hk W
/-- 'append(bytes, bytes...)', where nothing may be appended. -/
theorem wpList_any {w : World} {ops : Array Oper} {rest : List Oper} {o : Oper} {a : Act} {Q : Exit → Act → World → Prop} (b : Nat) (v : Value) (l x : B) (A : Option Addr) (m c : Nat) (so xo : Operand)
    (hown : BOwn w b v l) (hx : Bts w A x) (hc : A = none → c = 0) (hm : m = x.length) (hw : Region.wanted o (yielded ops a.tmps) = true) (ho : o.op = .call { callee := .builtin .append, args := #[so, xo], argTypes := #[23, 23] }) (hs : a.eval so = v) (hxo : a.eval xo = .slice A m c)
    (hl : l.length + x.length ≤ 1000000) (hb : b ≤ w.heap.size)
    (h' : ∀ v' w', BOwn w' b v' (l ++ x) → w.grownBy w' v.ownBlock → wpList Tryz.prog ops Q rest (a.put o.dst v') w') :
    wpList Tryz.prog ops Q (o :: rest) a w := by
  refine BigFrame.wpList_want hw fun K hK => ?_
  subst hm
  obtain ⟨v', w', hr, hO, hg⟩ := run_any o.type b v l x A c hown hx hc hl hb
  unfold Oper.wp execOp
  simp only [ho, resolve, invoke, builtin, Sem.run_bind, Sem.run_pure, Result.andThen_ok, List.map_toArray, List.map_cons, List.map_nil, hs, hxo, hr]
  exact hK _ _ (h' _ w' hO hg)
/-- The law's two numbers. -/
structure ABlk (w : World) (R : Nat) (q0 q1 : Int) : Prop where
  out : w.heap[R]? = some (.cells #[.int .i64 q0, .int .i64 q1] 72 (0, 0))
theorem ABlk.low {w w1 : World} {R b : Nat} {q0 q1 : Int} (h : ABlk w R q0 q1) (hl : Low b w w1) (hb : R < b) : ABlk w1 R q0 q1 := ⟨(hl.out.block R hb).trans h.out⟩
theorem ABlk.lt {w : World} {R : Nat} {q0 q1 : Int} (h : ABlk w R q0 q1) : R < w.heap.size := (Array.getElem?_eq_some_iff.1 h.out).1
theorem ABlk.c0 {w : World} {R : Nat} {q0 q1 : Int} (h : ABlk w R q0 q1) : w.cell? ⟨R, 0, none⟩ = some (.int .i64 q0) := (cell_of_row w R 0 _ _ _ h.out).trans rfl
theorem ABlk.c1 {w : World} {R : Nat} {q0 q1 : Int} (h : ABlk w R q0 q1) : w.cell? ⟨R, 1, none⟩ = some (.int .i64 q1) := (cell_of_row w R 1 _ _ _ h.out).trans rfl
set_option maxHeartbeats 16000000 in
set_option maxRecDepth 100000 in
theorem once_calls (x : Sd) (q0 q1 : Int) (VA BA KA : Option Addr) (vc bc kc : Nat) (l : B) (w : World) (hv : Strs w VA x.vals) (hb : Bts w BA x.body) (hbc : x.body.length ≤ bc)
    (hpa : x.pa.length ≤ 1048576) (hho : x.host.length ≤ 1048576) (hvl : ∀ v ∈ x.vals, v.length ≤ 1048576) (hvn : x.vals.length ≤ 1048576) (hbn : x.body.length ≤ 1048576)
    (hk : Bts w KA l) (hkc : l.length ≤ kc) (hkn : KA = none → kc = 0) (hln : l.length ≤ 1048576) (hKA : ∀ ad, KA = some ad → ad.block < w.heap.size) (hg : Glob w) (ht : Tab10 w) (hd : TabD w) :
    Calls Tryz.prog 8 #[.agg #[.int .i64 x.me, .int .i64 x.st, .string (bs x.pa), .string (bs x.host), .slice VA x.vals.length vc, .slice BA x.body.length bc], .agg #[.int .i64 q0, .int .i64 q1], .slice KA l.length kc] w fun e w' =>
      e = .returned (.bool true) ∧ Low w.heap.size w w' := by
  have hck := madeM_ok x
  have HX := Lib.hid (fun (w1 : World) (hl : Low w.heap.size w w1) => works_calls w1 (hg.low hl hg.lt))
  have HG := Lib.hid (fun (w1 : World) (hl : Low w.heap.size w w1) => hg.low hl hg.lt)
  have HT := Lib.hid (fun (w1 : World) (hl : Low w.heap.size w w1) => ht.low hl (Nat.lt_of_lt_of_le (by decide) hg.lt))
  have HD := Lib.hid (fun (w1 : World) (hl : Low w.heap.size w w1) => hd.low hl hd.lt)
  have HM := Lib.hid (fun (w1 : World) (hl : Low w.heap.size w w1) => made_calls x VA BA vc bc w1 (hv.low hl (Nat.le_refl _)) (hb.low hl (Nat.le_refl _)) hbc hpa hho hvl hvn hbn)
  have HKb := Lib.hid (fun (w1 : World) (hl : Low w.heap.size w w1) => hk.low hl (Nat.le_refl _))
  obtain ⟨kk, hkk⟩ : ∃ k, k = min l.length 300 := ⟨_, rfl⟩
  have hk300 : min (l.length : Int) 300 = (kk : Int) := by omega
  have hksl : ∀ W : World, (Instr.slice 23 (.slice KA l.length kc) none (some (.int .i64 (kk : Int))) none).run Tryz.prog W = .ok (.slice KA kk kc) W := fun W => slice_to2 KA l.length kc kk (by omega) W
  have hkt : (l.take kk).length = kk := by simp; omega
  have hkb300 : kk ≤ 300 := by omega
  have hkkc : kk ≤ kc := by omega
  have HKt := Lib.hid (fun (w1 : World) (hl : Low w.heap.size w w1) => (take_bts (hk.low hl (Nat.le_refl _)) kk : Bts w1 KA (l.take kk)))
  have HKl := Lib.hid hkt
  have HKn := Lib.hid hkn
  have hl0 := ((Low.refl w.heap.size w).alloc (Nat.le_refl _) (.cells #[.int .i64 x.me, .int .i64 x.st, .string (bs x.pa), .string (bs x.host), .slice VA x.vals.length vc, .slice BA x.body.length bc] 25)).alloc (by simp) (.cells #[.int .i64 q0, .int .i64 q1] 72)
  have HS0 := Lib.hid (show SBlk ((w.alloc (.cells #[.int .i64 x.me, .int .i64 x.st, .string (bs x.pa), .string (bs x.host), .slice VA x.vals.length vc, .slice BA x.body.length bc] 25)).alloc (.cells #[.int .i64 q0, .int .i64 q1] 72)) w.heap.size x VA BA vc bc from ⟨(Below.heap_alloc _ _ w.heap.size (by simp)).trans (heap_alloc_new w _)⟩)
  have hQ := heap_alloc_new (w.alloc (.cells #[.int .i64 x.me, .int .i64 x.st, .string (bs x.pa), .string (bs x.host), .slice VA x.vals.length vc, .slice BA x.body.length bc] 25)) (.cells #[.int .i64 q0, .int .i64 q1] 72)
  rw [show (w.alloc (.cells #[.int .i64 x.me, .int .i64 x.st, .string (bs x.pa), .string (bs x.host), .slice VA x.vals.length vc, .slice BA x.body.length bc] 25)).heap.size = w.heap.size + 1 by simp] at hQ
  have HQ0 := Lib.hid (show ABlk ((w.alloc (.cells #[.int .i64 x.me, .int .i64 x.st, .string (bs x.pa), .string (bs x.host), .slice VA x.vals.length vc, .slice BA x.body.length bc] 25)).alloc (.cells #[.int .i64 q0, .int .i64 q1] 72)) (w.heap.size + 1) q0 q1 from ⟨hQ⟩)
  have HL0 := Lib.hid hl0
  have s0 := HS0.out.cell 0
  have s1 := HS0.out.cell 1
  have s2 := HS0.out.cell 2
  have s3 := HS0.out.cell 3
  have s4 := HS0.out.cell 4
  have s5 := HS0.out.cell 5
  simp only [List.getElem?_toArray, List.getElem?_cons_zero, List.getElem?_cons_succ] at s0 s1 s2 s3 s4 s5
  clear hl0 hv hb hbc hpa hho hvl hvn hbn hg ht hd hk hkn hkk hkt hQ
  go_enter Tryz.func8, Tryz.ntmps8
  go_wp2_with fail
  refine (HM.out _ HL0.out).mono ?_
  rintro e w2 ⟨hA, hc, bA, bc2, rfl, hl2, hO, hBo⟩
  obtain ⟨A', c', e', hle, hHds, hAd⟩ := hO.slice
  cases e'
  obtain ⟨A', c', e', hle2, hBts, hBd⟩ := hBo.slice
  cases e'
  generalize madeM x = m at *
  have HL2 := Lib.hid (HL0.out.trans (hl2.mono HL0.out.size))
  have HQ2 := Lib.hid (HQ0.out.low hl2 HQ0.out.lt)
  have HMa := Lib.hid (show MAt w2 m hA bA from ⟨hHds, hBts, fun ad e => (hAd ad e).2.1, fun ad e => (hBd ad e).2.1⟩)
  have Hck := Lib.hid hck
  have Hbc := Lib.hid hle2
  clear hl2 hO hBo hHds hAd hBts hBd hck hle hle2 s0 s1 s2 s3 s4 s5 HS0 HM HQ0 HL0
  have hl3 := (Low.refl w2.heap.size w2).alloc (Nat.le_refl _) (.cells #[.string (bs m.me), .string (bs m.pa), .int .i64 m.st, .slice hA m.hs.length hc, .slice bA m.body.length bc2] 29)
  have HZ3 := Lib.hid (show ZRow (w2.alloc (.cells #[.string (bs m.me), .string (bs m.pa), .int .i64 m.st, .slice hA m.hs.length hc, .slice bA m.body.length bc2] 29)) w2.heap.size (bs m.me) (bs m.pa) m.st (.slice hA m.hs.length hc) (.slice bA m.body.length bc2) from ⟨heap_alloc_new w2 _⟩)
  have HL3 := Lib.hid (HL2.out.trans (hl3.mono HL2.out.size))
  have HM3 := Lib.hid (HMa.out.low hl3)
  have HQ3 := Lib.hid (HQ2.out.low hl3 HQ2.out.lt)
  clear hl3
  obtain ⟨q0', q1', q2, q3, q4⟩ := HZ3.out.five
  go_wp2_with fail
  refine (bytes_calls m hA bA hc bc2 _ (HG.out _ HL3.out) (HT.out _ HL3.out) Hck.out HM3.out.heads HM3.out.ha HM3.out.body HM3.out.ba).mono ?_
  rintro e w4 ⟨v4, rfl, hO4, hl4⟩
  obtain ⟨A4, c4, rfl, hc4, hB4, hA4⟩ := hO4.slice
  have HZ4 := Lib.hid (HZ3.out.low hl4 HZ3.out.lt0)
  have HQ4 := Lib.hid (HQ3.out.low hl4 HQ3.out.lt)
  have HL4 := Lib.hid (HL3.out.trans (hl4.mono HL3.out.size))
  have HM4 := Lib.hid (HM3.out.low hl4)
  have HB4 := Lib.hid hB4
  have HA4 := Lib.hid (fun (ad : Addr) (e : A4 = some ad) => (hA4 ad e).2.1)
  have Hc4 := Lib.hid hc4
  have HPb := Lib.hid (parse_back Hck.out)
  have HLb := Lib.hid (bytes_len Hck.out)
  clear hl4 hO4 hc4 hB4 hA4 q0' q1' q2 q3 q4 HZ3 HQ3 HM3 HL3
  have t1 := HQ4.out.c1
  by_cases h2 : Int.tmod q1 2 = 0
  · have d2 : (Int.tmod q1 2 == 0) = true := by rw [h2]; rfl
    obtain ⟨sz, hsz, hs1, hs2⟩ : ∃ sz : Nat, 1 + q1 % 4095 = (sz : Int) ∧ 1 ≤ sz ∧ sz ≤ 4095 := by
      have h0 := Int.emod_nonneg q1 (show (4095 : Int) ≠ 0 by decide)
      have h5 := Int.emod_lt_of_pos q1 (show (0 : Int) < 4095 by decide)
      exact ⟨(1 + q1 % 4095).toNat, by omega, by omega, by omega⟩
    have hwz : IntKind.i64.wrap (sz : Int) = (sz : Int) := by rw [IntKind.wrap_i64]; omega
    have HLd := Lib.hid HL4.out.drew
    have HZd := Lib.hid (HZ4.out.low (Low.refl _ w4).drew HZ4.out.lt0)
    have HQd := Lib.hid (HQ4.out.low (Low.refl _ w4).drew HQ4.out.lt)
    have HMd := Lib.hid (HM4.out.low (Low.refl _ w4).drew)
    have HBq := Lib.hid (fun (w1 : World) => bring_calls q1 4095 w1 (by decide) (by decide))
    have hCh := chunked_calls m sz hA bA hc bc2 w4.drew hs1 hs2 (HG.out _ HLd.out) (HT.out _ HLd.out) (HD.out _ HLd.out) Hck.out HMd.out.heads HMd.out.ha HMd.out.body HMd.out.ba Hbc.out
    have H6d := Lib.hid (show w4.drew.cell? ⟨w2.heap.size, 0, none⟩ = some (.string (bs m.me)) ∧ w4.drew.cell? ⟨w2.heap.size, 1, none⟩ = some (.string (bs m.pa)) ∧ w4.drew.cell? ⟨w2.heap.size, 2, none⟩ = some (.int .i64 m.st) ∧ w4.drew.cell? ⟨w2.heap.size, 3, none⟩ = some (.slice hA m.hs.length hc) ∧ w4.drew.cell? ⟨w2.heap.size, 4, none⟩ = some (.slice bA m.body.length bc2) ∧ w4.drew.cell? ⟨w.heap.size + 1, 1, none⟩ = some (.int .i64 q1) from ⟨HZd.out.five.1, HZd.out.five.2.1, HZd.out.five.2.2.1, HZd.out.five.2.2.2.1, HZd.out.five.2.2.2.2, HQd.out.c1⟩)
    by_cases hbig : 8192 < (chunkedM m sz).length
    · simp only [ChTold, if_pos hbig] at hCh
      have HCh := Lib.hid hCh
      clear hCh hbig
      go_wp2_with fail
      go_region_held3 (fun wx => wx.cell? ⟨w2.heap.size, 0, none⟩ = some (.string (bs m.me)) ∧ wx.cell? ⟨w2.heap.size, 1, none⟩ = some (.string (bs m.pa)) ∧ wx.cell? ⟨w2.heap.size, 2, none⟩ = some (.int .i64 m.st) ∧ wx.cell? ⟨w2.heap.size, 3, none⟩ = some (.slice hA m.hs.length hc) ∧ wx.cell? ⟨w2.heap.size, 4, none⟩ = some (.slice bA m.body.length bc2) ∧ wx.cell? ⟨w.heap.size + 1, 1, none⟩ = some (.int .i64 q1)) (first | with_reducible exact H6d.out | with_reducible exact H69.out) (first | (go_at_call 12; with_reducible refine (HBq.out _).mono ?_; rintro e wy ⟨rfl, rfl⟩) | (go_at_call 32; with_reducible refine HCh.out.mono ?_; rintro e w9 ⟨rfl, hl9⟩; have HZ9 := Lib.hid (HZd.out.low hl9 HZd.out.lt0); have HQ9 := Lib.hid (HQd.out.low hl9 HQd.out.lt); have H69 := Lib.hid (show w9.cell? ⟨w2.heap.size, 0, none⟩ = some (.string (bs m.me)) ∧ w9.cell? ⟨w2.heap.size, 1, none⟩ = some (.string (bs m.pa)) ∧ w9.cell? ⟨w2.heap.size, 2, none⟩ = some (.int .i64 m.st) ∧ w9.cell? ⟨w2.heap.size, 3, none⟩ = some (.slice hA m.hs.length hc) ∧ w9.cell? ⟨w2.heap.size, 4, none⟩ = some (.slice bA m.body.length bc2) ∧ w9.cell? ⟨w.heap.size + 1, 1, none⟩ = some (.int .i64 q1) from ⟨HZ9.out.five.1, HZ9.out.five.2.1, HZ9.out.five.2.2.1, HZ9.out.five.2.2.2.1, HZ9.out.five.2.2.2.2, HQ9.out.c1⟩); have HL9 := Lib.hid (HLd.out.trans (hl9.mono HLd.out.size)); clear hl9))
      go_wp2_with (first | (go_at_call 14; refine (HX.out _ HL9.out).mono ?_; rintro e w10 ⟨rfl, hl10⟩))
      go_ret
      exact ⟨rfl, HL9.out.trans (hl10.mono HL9.out.size)⟩
    · simp only [ChTold, if_neg hbig] at hCh
      have HPb := Lib.hid (parse_chunked Hck.out sz hs1 (by omega))
      have Hle := Lib.hid (show (chunkedM m sz).length ≤ 8192 by omega)
      have Hne := Lib.hid (show chunkedM m sz ≠ [] from fun e => by
        have h := HPb.out
        rw [e] at h
        have h3 : parseF [] = .error 3 := by kernel_rfl
        rw [h3] at h
        cases h)
      have HCh := Lib.hid hCh
      clear hCh hbig HB4 HA4 Hc4
      generalize chunkedM m sz = bl at *
      go_wp2_with fail
      go_region_held3 (fun wx => wx.cell? ⟨w2.heap.size, 0, none⟩ = some (.string (bs m.me)) ∧ wx.cell? ⟨w2.heap.size, 1, none⟩ = some (.string (bs m.pa)) ∧ wx.cell? ⟨w2.heap.size, 2, none⟩ = some (.int .i64 m.st) ∧ wx.cell? ⟨w2.heap.size, 3, none⟩ = some (.slice hA m.hs.length hc) ∧ wx.cell? ⟨w2.heap.size, 4, none⟩ = some (.slice bA m.body.length bc2) ∧ wx.cell? ⟨w.heap.size + 1, 1, none⟩ = some (.int .i64 q1)) (first | with_reducible exact H6d.out | with_reducible exact H69.out) (first | (go_at_call 12; with_reducible refine (HBq.out _).mono ?_; rintro e wy ⟨rfl, rfl⟩) | (go_at_call 32; with_reducible refine HCh.out.mono ?_; rintro e w5 ⟨⟨v5, rfl, ho5⟩, hl5⟩; obtain ⟨A5, c5, rfl, hc5, hB5, hA5⟩ := ho5.slice; have HZ9 := Lib.hid (HZd.out.low hl5 HZd.out.lt0); have HQb := Lib.hid (HQd.out.low hl5 HQd.out.lt); have H69 := Lib.hid (show w5.cell? ⟨w2.heap.size, 0, none⟩ = some (.string (bs m.me)) ∧ w5.cell? ⟨w2.heap.size, 1, none⟩ = some (.string (bs m.pa)) ∧ w5.cell? ⟨w2.heap.size, 2, none⟩ = some (.int .i64 m.st) ∧ w5.cell? ⟨w2.heap.size, 3, none⟩ = some (.slice hA m.hs.length hc) ∧ w5.cell? ⟨w2.heap.size, 4, none⟩ = some (.slice bA m.body.length bc2) ∧ w5.cell? ⟨w.heap.size + 1, 1, none⟩ = some (.int .i64 q1) from ⟨HZ9.out.five.1, HZ9.out.five.2.1, HZ9.out.five.2.2.1, HZ9.out.five.2.2.2.1, HZ9.out.five.2.2.2.2, HQb.out.c1⟩); have HWb := Lib.hid (HLd.out.trans (hl5.mono HLd.out.size)); have HBb := Lib.hid hB5; have HAb := Lib.hid (fun (ad : Addr) (e : A5 = some ad) => (hA5 ad e).2.1); have Hcb := Lib.hid hc5; clear hl5 ho5 hc5 hB5 hA5))
      have HLb := Lib.hid Hle.out
      generalize hn : bl.length = n at *
      have hn0 : 0 < n := by rw [← hn]; exact List.length_pos_iff.2 Hne.out
      have hn8 : n ≤ 8192 := Hle.out
      obtain ⟨k1, hk1, hk2⟩ : ∃ k1 : Nat, q0 % (n : Int) = (k1 : Int) ∧ k1 < n := by
        have h0 := Int.emod_nonneg q0 (show (n : Int) ≠ 0 by omega)
        have h5 := Int.emod_lt_of_pos q0 (show (0 : Int) < (n : Int) by omega)
        exact ⟨(q0 % (n : Int)).toNat, by omega, by omega⟩
      have hBr := bring_calls q0 (n : Int) w5 (by omega) (by omega)
      rw [hk1] at hBr
      have HBr := Lib.hid hBr
      have hkA : k1 ≤ c5 := by have := Hcb.out; omega
      have hs1 := fun (W : World) => slice_to2 A5 n c5 k1 hkA W
      have hcut := parse_cut HPb.out k1 (by rw [hn]; exact hk2)
      have hw3 : wrongB (bl.take k1) 3 = true := by unfold wrongB; rw [hcut]; rfl
      have hWr := wrong_calls A5 (bl.take k1) c5 3 w5 (take_bts HBb.out k1) (by rw [List.length_take, hn]; omega) HAb.out (HG.out _ HWb.out) (by decide)
      rw [hw3, show (bl.take k1).length = k1 by rw [List.length_take, hn]; omega] at hWr
      have HWr := Lib.hid hWr
      have e0 : ((n : Int) == 0) = false := by rw [beq_eq_false_iff_ne]; omega
      have u0 := HQb.out.c0
      have HN := Lib.hid hn
      have HCp := Lib.hid (fun (w1 : World) (hl : Low w5.heap.size w5 w1) => copy_calls A5 bl c5 w1 (HBb.out.low hl (Nat.le_refl _)) (by rw [hn]; omega))
      rw [hn] at HCp
      obtain ⟨al, hal⟩ : ∃ al, al = bl ++ l.take kk := ⟨_, rfl⟩
      have Hal := Lib.hid hal
      have Han0 := Lib.hid (show al.length = n + kk by rw [hal, List.length_append, hn, HKl.out])
      clear hn hBr hcut hw3 hWr hk1 HLb hal
      go_wp2_with (first | (go_at_call 12; refine HBr.out.mono ?_; rintro e wz ⟨rfl, rfl⟩) | (go_at_call 13; refine HWr.out.mono ?_; rintro e w6 ⟨rfl, hl6⟩; have HL6 := Lib.hid hl6; clear hl6) | (go_at_call 33; refine (HCp.out _ HL6.out).mono ?_; rintro e w7 ⟨v7, rfl, ho7, hl7⟩; have HO7 := Lib.hid ho7; have HL7 := Lib.hid (HWb.out.trans ((HL6.out.trans (hl7.mono HL6.out.size)).mono HWb.out.size)); have HL76 := Lib.hid hl7; clear ho7 hl7) | (at_builtin; refine wpList_any w6.heap.size v7 bl (l.take kk) KA kk kc _ _ HO7.out (HKt.out _ HL7.out) HKn.out HKl.out.symm rfl rfl rfl rfl (by have := HN.out; have := HKl.out; omega) (by exact HL76.out.size) ?_; intro v8 w8 ho8 hg8; rw [← Hal.out] at ho8; obtain ⟨A8, c8, rfl, hc8, hB8, hA8⟩ := ho8.slice; have HB8 := Lib.hid hB8; have Hc8 := Lib.hid hc8; have HA8 := Lib.hid (fun (ad : Addr) (e : A8 = some ad) => (hA8 ad e).2.1); have HL8 := Lib.hid (low_of_grown HL7.out (HO7.out.weak0 (Nat.le_trans HWb.out.size HL6.out.size)) HL7.out.size hg8); clear hB8 hc8 hA8 ho8 hg8))
      · refine (HX.out _ HL8.out).mono ?_
        rintro e w9 ⟨rfl, hl9⟩
        go_wp2_with fail
        go_ret
        exact ⟨rfl, HL8.out.trans (hl9.mono HL8.out.size)⟩
      · have hk0 : ((kk : Int) == 0) = false := by assumption
        have hne : l.take kk ≠ [] := fun e => by
          have h1 := HKl.out
          rw [e] at h1
          rw [← h1] at hk0
          simp at hk0
        have hpm := parse_more HPb.out (l.take kk) hne
        rw [← Hal.out] at hpm
        have hP8 := parse_calls A8 al c8 w8 HB8.out Hc8.out HA8.out (HG.out _ HL8.out)
        rw [hpm] at hP8
        generalize al.length = an at *
        clear hpm hne
        by_cases hbig : 8192 < an
        · rw [if_pos hbig] at hP8
          have d8 : decide ((8192 : Int) < (an : Int)) = true := by simp; omega
          have HP8 := Lib.hid hP8
          clear hP8
          refine HP8.out.mono ?_
          rintro e w9 ⟨rfl, hl9⟩
          have HL9 := Lib.hid ((HL8.out.trans (hl9.mono HL8.out.size)).alloc (Nat.le_trans HL8.out.size hl9.size) (.cells #[.string (bs []), .string (bs []), .int .i64 0, .slice none 0 0, .slice none 0 0] 29))
          clear hl9
          go_wp2_with (first | (go_at_call 14; refine (HX.out _ HL9.out).mono ?_; rintro e w10 ⟨rfl, hl10⟩))
          go_ret
          exact ⟨rfl, HL9.out.trans (hl10.mono HL9.out.size)⟩
        · rw [if_neg hbig] at hP8
          have HP8 := Lib.hid hP8
          clear hP8
          refine HP8.out.mono ?_
          rintro e w9 ⟨rfl, hl9⟩
          have HL9 := Lib.hid ((HL8.out.trans (hl9.mono HL8.out.size)).alloc (Nat.le_trans HL8.out.size hl9.size) (.cells #[.string (bs []), .string (bs []), .int .i64 0, .slice none 0 0, .slice none 0 0] 29))
          clear hl9
          go_wp2_with (first | (go_at_call 14; refine (HX.out _ HL9.out).mono ?_; rintro e w10 ⟨rfl, hl10⟩))
          go_ret
          exact ⟨rfl, HL9.out.trans (hl10.mono HL9.out.size)⟩
  · have d2 : (Int.tmod q1 2 == 0) = false := by rw [beq_eq_false_iff_ne]; exact h2
    obtain ⟨Wb, hWb⟩ : ∃ Wb, w4 = Wb := ⟨_, rfl⟩
    subst hWb
    have Hne := Lib.hid HLb.out.2
    have Hle := Lib.hid (show (bytesM m).length ≤ 8192 by have := HLb.out.1; omega)
    have HWb := Lib.hid HL4.out
    have HQb := Lib.hid HQ4.out
    have HBb := Lib.hid HB4.out
    have HAb := Lib.hid HA4.out
    have Hcb := Lib.hid Hc4.out
    clear HL4 HQ4 HB4 HA4 Hc4 HZ4 HM4
    generalize bytesM m = bl at *
    generalize hn : bl.length = n at *
    have hn0 : 0 < n := by rw [← hn]; exact List.length_pos_iff.2 Hne.out
    have hn8 : n ≤ 8192 := Hle.out
    obtain ⟨k1, hk1, hk2⟩ : ∃ k1 : Nat, q0 % (n : Int) = (k1 : Int) ∧ k1 < n := by
      have h0 := Int.emod_nonneg q0 (show (n : Int) ≠ 0 by omega)
      have h5 := Int.emod_lt_of_pos q0 (show (0 : Int) < (n : Int) by omega)
      exact ⟨(q0 % (n : Int)).toNat, by omega, by omega⟩
    have hBr := bring_calls q0 (n : Int) w4 (by omega) (by omega)
    rw [hk1] at hBr
    have HBr := Lib.hid hBr
    have hkA : k1 ≤ c4 := by have := Hcb.out; omega
    have hs1 := fun (W : World) => slice_to2 A4 n c4 k1 hkA W
    have hcut := parse_cut HPb.out k1 (by rw [hn]; exact hk2)
    have hw3 : wrongB (bl.take k1) 3 = true := by unfold wrongB; rw [hcut]; rfl
    have hWr := wrong_calls A4 (bl.take k1) c4 3 w4 (take_bts HBb.out k1) (by rw [List.length_take, hn]; omega) HAb.out (HG.out _ HWb.out) (by decide)
    rw [hw3, show (bl.take k1).length = k1 by rw [List.length_take, hn]; omega] at hWr
    have HWr := Lib.hid hWr
    have e0 : ((n : Int) == 0) = false := by rw [beq_eq_false_iff_ne]; omega
    have u0 := HQb.out.c0
    have HN := Lib.hid hn
    have HCp := Lib.hid (fun (w1 : World) (hl : Low w4.heap.size w4 w1) => copy_calls A4 bl c4 w1 (HBb.out.low hl (Nat.le_refl _)) (by rw [hn]; omega))
    rw [hn] at HCp
    obtain ⟨al, hal⟩ : ∃ al, al = bl ++ l.take kk := ⟨_, rfl⟩
    have Hal := Lib.hid hal
    have Han0 := Lib.hid (show al.length = n + kk by rw [hal, List.length_append, hn, HKl.out])
    clear hn hBr hcut hw3 hWr hk1 HLb hal
    go_wp2_with (first | (go_at_call 12; refine HBr.out.mono ?_; rintro e wz ⟨rfl, rfl⟩) | (go_at_call 13; refine HWr.out.mono ?_; rintro e w6 ⟨rfl, hl6⟩; have HL6 := Lib.hid hl6; clear hl6) | (go_at_call 33; refine (HCp.out _ HL6.out).mono ?_; rintro e w7 ⟨v7, rfl, ho7, hl7⟩; have HO7 := Lib.hid ho7; have HL7 := Lib.hid (HWb.out.trans ((HL6.out.trans (hl7.mono HL6.out.size)).mono HWb.out.size)); have HL76 := Lib.hid hl7; clear ho7 hl7) | (at_builtin; refine wpList_any w6.heap.size v7 bl (l.take kk) KA kk kc _ _ HO7.out (HKt.out _ HL7.out) HKn.out HKl.out.symm rfl rfl rfl rfl (by have := HN.out; have := HKl.out; omega) (by exact HL76.out.size) ?_; intro v8 w8 ho8 hg8; rw [← Hal.out] at ho8; obtain ⟨A8, c8, rfl, hc8, hB8, hA8⟩ := ho8.slice; have HB8 := Lib.hid hB8; have Hc8 := Lib.hid hc8; have HA8 := Lib.hid (fun (ad : Addr) (e : A8 = some ad) => (hA8 ad e).2.1); have HL8 := Lib.hid (low_of_grown HL7.out (HO7.out.weak0 (Nat.le_trans HWb.out.size HL6.out.size)) HL7.out.size hg8); clear hB8 hc8 hA8 ho8 hg8))
    · refine (HX.out _ HL8.out).mono ?_
      rintro e w9 ⟨rfl, hl9⟩
      go_wp2_with fail
      go_ret
      exact ⟨rfl, HL8.out.trans (hl9.mono HL8.out.size)⟩
    · have hk0 : ((kk : Int) == 0) = false := by assumption
      have hne : l.take kk ≠ [] := fun e => by
        have h1 := HKl.out
        rw [e] at h1
        rw [← h1] at hk0
        simp at hk0
      have hpm := parse_more HPb.out (l.take kk) hne
      rw [← Hal.out] at hpm
      have hP8 := parse_calls A8 al c8 w8 HB8.out Hc8.out HA8.out (HG.out _ HL8.out)
      rw [hpm] at hP8
      generalize al.length = an at *
      clear hpm hne
      by_cases hbig : 8192 < an
      · rw [if_pos hbig] at hP8
        have d8 : decide ((8192 : Int) < (an : Int)) = true := by simp; omega
        have HP8 := Lib.hid hP8
        clear hP8
        refine HP8.out.mono ?_
        rintro e w9 ⟨rfl, hl9⟩
        have HL9 := Lib.hid ((HL8.out.trans (hl9.mono HL8.out.size)).alloc (Nat.le_trans HL8.out.size hl9.size) (.cells #[.string (bs []), .string (bs []), .int .i64 0, .slice none 0 0, .slice none 0 0] 29))
        clear hl9
        go_wp2_with (first | (go_at_call 14; refine (HX.out _ HL9.out).mono ?_; rintro e w10 ⟨rfl, hl10⟩))
        go_ret
        exact ⟨rfl, HL9.out.trans (hl10.mono HL9.out.size)⟩
      · rw [if_neg hbig] at hP8
        have HP8 := Lib.hid hP8
        clear hP8
        refine HP8.out.mono ?_
        rintro e w9 ⟨rfl, hl9⟩
        have HL9 := Lib.hid ((HL8.out.trans (hl9.mono HL8.out.size)).alloc (Nat.le_trans HL8.out.size hl9.size) (.cells #[.string (bs []), .string (bs []), .int .i64 0, .slice none 0 0, .slice none 0 0] 29))
        clear hl9
        go_wp2_with (first | (go_at_call 14; refine (HX.out _ HL9.out).mono ?_; rintro e w10 ⟨rfl, hl10⟩))
        go_ret
        exact ⟨rfl, HL9.out.trans (hl10.mono HL9.out.size)⟩
end Go.Proofs.YtcognpibphpadaaGreatDoor
