/- HttpBack: what may be is read of its bytes as it was, and of its chunks. -/
import Derived.Test.YtcognpibphpadaaGreatDoorZChu
import Derived.Test.YtcognpibphpadaaGreatDoorZMade
import Derived.Test.YtcognpibphpadaaGreatDoorZGood
set_option linter.unusedVariables false
set_option linter.unusedSimpArgs false
namespace Go.Proofs.YtcognpibphpadaaGreatDoor
open Go.RowKit

/-- A message's rows, as they lie. -/
structure MAt (w : World) (m : Msg) (hA bA : Option Addr) : Prop where
  heads : Hds w hA m.hs
  body : Bts w bA m.body
  ha : ∀ ad, hA = some ad → ad.block < w.heap.size
  ba : ∀ ad, bA = some ad → ad.block < w.heap.size
theorem MAt.low {w w1 : World} {m : Msg} {hA bA : Option Addr} (h : MAt w m hA bA) (hl : Low w.heap.size w w1) : MAt w1 m hA bA :=
  ⟨h.heads.low hl (Nat.le_refl _), h.body.low hl (Nat.le_refl _), fun ad e => Nat.lt_of_lt_of_le (h.ha ad e) hl.size, fun ad e => Nat.lt_of_lt_of_le (h.ba ad e) hl.size⟩
theorem may_small {m : Msg} (h : checkM m = 0) : (∀ x ∈ m.hs, x.2.length ≤ 1048576) ∧ m.pa.length ≤ 1048576 ∧ m.hs.length ≤ 16 ∧ m.body.length ≤ 2000 := by
  have hm := may_of h
  refine ⟨fun x hx => ?_, ?_, hm.n, hm.body⟩
  · have h2 : mayB x.1 x.2 = true := hm.may x hx
    simp only [mayB, Bool.and_eq_true] at h2
    have := (value_facts h2.2).1
    omega
  · rcases hm.fine with ⟨_, h, _⟩ | ⟨_, h, _⟩
    · have := (path_facts h).1; omega
    · rw [h]; simp
theorem MAt.check {w : World} {m : Msg} {hA bA : Option Addr} (h : MAt w m hA bA) (h0 : checkM m = 0) (hc bc : Nat) :
    Calls Tryz.prog 30 #[.agg #[.string (bs m.me), .string (bs m.pa), .int .i64 m.st, .slice hA m.hs.length hc, .slice bA m.body.length bc]] w fun e w' => e = .returned (.int .i64 0) ∧ Low w.heap.size w w' := by
  obtain ⟨h1, h2, h3, h4⟩ := may_small h0
  have := check_calls m hA bA hc bc w h.heads h.ha h1 (by omega) h2 (by omega)
  rwa [h0] at this
theorem MAt.same {w : World} {m : Msg} {hA bA hA2 bA2 : Option Addr} (h : MAt w m hA bA) (k : MAt w m hA2 bA2) (h0 : checkM m = 0) (hc bc hc2 bc2 : Nat) :
    Calls Tryz.prog 31 #[.agg #[.string (bs m.me), .string (bs m.pa), .int .i64 m.st, .slice hA m.hs.length hc, .slice bA m.body.length bc], .agg #[.string (bs m.me), .string (bs m.pa), .int .i64 m.st, .slice hA2 m.hs.length hc2, .slice bA2 m.body.length bc2]] w fun e w' => e = .returned (.bool true) ∧ Low w.heap.size w w' := by
  obtain ⟨h1, h2, h3, h4⟩ := may_small h0
  have := same_calls m m hA bA hA2 bA2 hc bc hc2 bc2 w h.heads k.heads h.body k.body h.ha k.ha h.ba k.ba (by omega) (by omega)
  rwa [same_refl] at this
/-- Parse of bytes that are read as a message. -/
theorem parse_ok_calls (A : Option Addr) (l : B) (c : Nat) (w : World) (m : Msg) (hl : Bts w A l) (hc : l.length ≤ c) (hA : ∀ ad, A = some ad → ad.block < w.heap.size) (hg : Glob w) (hp : parseF l = .ok m) :
    Calls Tryz.prog 28 #[.slice A l.length c] w fun e w' => ∃ hA hc bA bc, e = .returned (.tuple #[.agg #[.string (bs m.me), .string (bs m.pa), .int .i64 m.st, .slice hA m.hs.length hc, .slice bA m.body.length bc], .int .i64 0]) ∧ MAt w' m hA bA ∧ m.body.length ≤ bc ∧ Low w.heap.size w w' ∧ (∀ ad, hA = some ad → w.heap.size ≤ ad.block) ∧ (∀ ad, bA = some ad → w.heap.size ≤ ad.block) := by
  have := parse_calls A l c w hl hc hA hg
  rw [hp] at this
  refine this.mono ?_
  rintro e w' ⟨⟨hA, hc1, bA, bc, rfl, hn1, hn2, hH, hB, hHA, hBA⟩, hl1⟩
  exact ⟨hA, hc1, bA, bc, rfl, ⟨hH, hB, fun ad e => (hHA ad e).2, fun ad e => (hBA ad e).2⟩, hn2, hl1, fun ad e => (hHA ad e).1, fun ad e => (hBA ad e).1⟩
/-- A block of a message is written anew. -/
theorem set5_ne (w : World) (R : Nat) (a b c d e : Value) (j : Nat) (hj : j ≠ R) : (((((w.setCell ⟨R, 0, none⟩ a).setCell ⟨R, 1, none⟩ b).setCell ⟨R, 2, none⟩ c).setCell ⟨R, 3, none⟩ d).setCell ⟨R, 4, none⟩ e).heap[j]? = w.heap[j]? := by
  rw [heap_set_ne0 _ _ _ _ _ hj, heap_set_ne0 _ _ _ _ _ hj, heap_set_ne0 _ _ _ _ _ hj, heap_set_ne0 _ _ _ _ _ hj, heap_set_ne0 _ _ _ _ _ hj]
theorem MAt.other {w w1 : World} {m : Msg} {hA bA : Option Addr} {R : Nat} (h : MAt w m hA bA) (hs : w.heap.size ≤ w1.heap.size) (hb : ∀ j, j ≠ R → w1.heap[j]? = w.heap[j]?) (h1 : ∀ ad, hA = some ad → ad.block ≠ R) (h2 : ∀ ad, bA = some ad → ad.block ≠ R) : MAt w1 m hA bA := by
  have hc : ∀ p : Addr, p.block ≠ R → w1.cell? p = w.cell? p := fun p hp => World.cell?_of_block (hb p.block hp)
  refine ⟨⟨fun j hj => ?_⟩, ⟨fun j hj => ?_⟩, fun ad e => Nat.lt_of_lt_of_le (h.ha ad e) hs, fun ad e => Nat.lt_of_lt_of_le (h.ba ad e) hs⟩
  · obtain ⟨ad, e, c1, c2⟩ := h.heads.out j hj
    have hne := h1 ad e
    refine ⟨ad, e, (hc _ (by rw [add_block]; exact hne)).trans c1, (hc _ ?_).trans c2⟩
    show (ad.add (j * 2)).block ≠ R
    rw [add_block]; exact hne
  · obtain ⟨ad, e, c1⟩ := h.body.out j hj
    exact ⟨ad, e, (hc _ (by rw [add_block]; exact h2 ad e)).trans c1⟩
set_option maxHeartbeats 16000000 in
set_option maxRecDepth 100000 in
theorem back_calls (x : Sd) (q : Int) (VA BA : Option Addr) (vc bc : Nat) (w : World) (hv : Strs w VA x.vals) (hb : Bts w BA x.body) (hbc : x.body.length ≤ bc)
    (hpa : x.pa.length ≤ 1048576) (hho : x.host.length ≤ 1048576) (hvl : ∀ v ∈ x.vals, v.length ≤ 1048576) (hvn : x.vals.length ≤ 1048576) (hbn : x.body.length ≤ 1048576) (hg : Glob w) (ht : Tab10 w) (hd : TabD w) :
    Calls Tryz.prog 9 #[.agg #[.int .i64 x.me, .int .i64 x.st, .string (bs x.pa), .string (bs x.host), .slice VA x.vals.length vc, .slice BA x.body.length bc], .int .i64 q] w fun e w' =>
      e = .returned (.bool true) ∧ Low w.heap.size w w' := by
  have hck := madeM_ok x
  have HX := Lib.hid (fun (w1 : World) (hl : Low w.heap.size w w1) => works_calls w1 (hg.low hl hg.lt))
  have HG := Lib.hid (fun (w1 : World) (hl : Low w.heap.size w w1) => hg.low hl hg.lt)
  have HT := Lib.hid (fun (w1 : World) (hl : Low w.heap.size w w1) => ht.low hl (Nat.lt_of_lt_of_le (by decide) hg.lt))
  have HD := Lib.hid (fun (w1 : World) (hl : Low w.heap.size w w1) => hd.low hl hd.lt)
  have HM := Lib.hid (fun (w1 : World) (hl : Low w.heap.size w w1) => made_calls x VA BA vc bc w1 (hv.low hl (Nat.le_refl _)) (hb.low hl (Nat.le_refl _)) hbc hpa hho hvl hvn hbn)
  have hl0 := (Low.refl w.heap.size w).alloc (Nat.le_refl _) (.cells #[.int .i64 x.me, .int .i64 x.st, .string (bs x.pa), .string (bs x.host), .slice VA x.vals.length vc, .slice BA x.body.length bc] 25)
  have HS0 := Lib.hid (show SBlk (w.alloc (.cells #[.int .i64 x.me, .int .i64 x.st, .string (bs x.pa), .string (bs x.host), .slice VA x.vals.length vc, .slice BA x.body.length bc] 25)) w.heap.size x VA BA vc bc from ⟨heap_alloc_new w _⟩)
  have HL0 := Lib.hid hl0
  clear hl0 hv hb hbc hpa hho hvl hvn hbn hg ht hd
  go_enter Tryz.func9, Tryz.ntmps9
  go_wp2_with fail
  refine (HX.out _ HL0.out).mono ?_
  rintro e w1 ⟨rfl, hl1⟩
  have HS1 := Lib.hid (HS0.out.low hl1 HS0.out.lt)
  have HL1 := Lib.hid (HL0.out.trans (hl1.mono HL0.out.size))
  clear hl1 HS0 HL0
  have s0 := HS1.out.cell 0
  have s1 := HS1.out.cell 1
  have s2 := HS1.out.cell 2
  have s3 := HS1.out.cell 3
  have s4 := HS1.out.cell 4
  have s5 := HS1.out.cell 5
  simp at s0 s1 s2 s3 s4 s5
  go_wp2_with fail
  refine (HM.out _ HL1.out).mono ?_
  rintro e w2 ⟨hA, hc, bA, bc2, rfl, hl2, hO, hBo⟩
  obtain ⟨A', c', e', hle, hHds, hAd⟩ := hO.slice
  cases e'
  obtain ⟨A', c', e', hle2, hBts, hBd⟩ := hBo.slice
  cases e'
  generalize madeM x = m at *
  have HL2 := Lib.hid (HL1.out.trans (hl2.mono HL1.out.size))
  have HMa := Lib.hid (show MAt w2 m hA bA from ⟨hHds, hBts, fun ad e => (hAd ad e).2.1, fun ad e => (hBd ad e).2.1⟩)
  have Hck := Lib.hid hck
  have Hbc := Lib.hid hle2
  obtain ⟨hm1, hm2, hm3, hm4⟩ := may_small hck
  have Hm4 := Lib.hid hm4
  clear hl2 hO hBo hHds hAd hBts hBd hck hm1 hm2 hm3 hm4 hle hle2 s0 s1 s2 s3 s4 s5 HS1 HM
  -- the message's block
  have hl3 := (Low.refl w2.heap.size w2).alloc (Nat.le_refl _) (.cells #[.string (bs m.me), .string (bs m.pa), .int .i64 m.st, .slice hA m.hs.length hc, .slice bA m.body.length bc2] 29)
  have HZ3 := Lib.hid (show ZRow (w2.alloc (.cells #[.string (bs m.me), .string (bs m.pa), .int .i64 m.st, .slice hA m.hs.length hc, .slice bA m.body.length bc2] 29)) w2.heap.size (bs m.me) (bs m.pa) m.st (.slice hA m.hs.length hc) (.slice bA m.body.length bc2) from ⟨heap_alloc_new w2 _⟩)
  have HL3 := Lib.hid (HL2.out.trans (hl3.mono HL2.out.size))
  have HM3 := Lib.hid (HMa.out.low hl3)
  clear hl3
  obtain ⟨q0, q1, q2, q3, q4⟩ := HZ3.out.five
  go_wp2_with fail
  refine (bytes_calls m hA bA hc bc2 _ (HG.out _ HL3.out) (HT.out _ HL3.out) Hck.out HM3.out.heads HM3.out.ha HM3.out.body HM3.out.ba).mono ?_
  rintro e w4 ⟨v4, rfl, hO4, hl4⟩
  obtain ⟨A4, c4, rfl, hc4, hB4, hA4⟩ := hO4.slice
  have HZ4 := Lib.hid (HZ3.out.low hl4 HZ3.out.lt0)
  have HL4 := Lib.hid (HL3.out.trans (hl4.mono HL3.out.size))
  have HM4 := Lib.hid (HM3.out.low hl4)
  have HP4 := Lib.hid (parse_ok_calls A4 (bytesM m) c4 w4 m hB4 hc4 (fun ad e => (hA4 ad e).2.1) (HG.out _ HL4.out) (parse_back Hck.out))
  clear hl4 hO4 hc4 hB4 hA4 q0 q1 q2 q3 q4
  generalize (bytesM m).length = bn at *
  go_wp2_with fail
  refine HP4.out.mono ?_
  rintro e w5 ⟨hA5, hc5, bA5, bc5, rfl, hm5, hb5, hl5, -, -⟩
  have HZ5 := Lib.hid (HZ4.out.low hl5 HZ4.out.lt0)
  have HL5 := Lib.hid (HL4.out.trans (hl5.mono HL4.out.size))
  have HM5 := Lib.hid (HM4.out.low hl5)
  have hl6 := (Low.refl w5.heap.size w5).alloc (Nat.le_refl _) (.cells #[.string (bs m.me), .string (bs m.pa), .int .i64 m.st, .slice hA5 m.hs.length hc5, .slice bA5 m.body.length bc5] 29)
  have HY6 := Lib.hid (show ZRow (w5.alloc (.cells #[.string (bs m.me), .string (bs m.pa), .int .i64 m.st, .slice hA5 m.hs.length hc5, .slice bA5 m.body.length bc5] 29)) w5.heap.size (bs m.me) (bs m.pa) m.st (.slice hA5 m.hs.length hc5) (.slice bA5 m.body.length bc5) from ⟨heap_alloc_new w5 _⟩)
  have HZ6 := Lib.hid (HZ5.out.low hl6 HZ5.out.lt0)
  have HL6 := Lib.hid (HL5.out.trans (hl6.mono HL5.out.size))
  have HM6 := Lib.hid (HM5.out.low hl6)
  have HN6 := Lib.hid (hm5.low hl6)
  have HRR := Lib.hid HZ5.out.lt0
  have HMh := Lib.hid HMa.out.ha
  have HMb := Lib.hid HMa.out.ba
  clear hl5 hl6 hm5 hb5 HZ3 HZ4 HZ5 HM3 HM4 HM5 HMa HP4
  obtain ⟨q0, q1, q2, q3, q4⟩ := HZ6.out.five
  go_wp2_with (first | (go_at_call 30; refine (HM6.out.check Hck.out hc bc2).mono ?_; rintro e w7 ⟨rfl, hl7⟩; obtain ⟨t0, t1, t2, t3, t4⟩ := (HZ6.out.low hl7 HZ6.out.lt0).five; obtain ⟨u0, u1, u2, u3, u4⟩ := (HY6.out.low hl7 HY6.out.lt0).five; have HZ7 := Lib.hid (HZ6.out.low hl7 HZ6.out.lt0); have HY7 := Lib.hid (HY6.out.low hl7 HY6.out.lt0); have HL7 := Lib.hid (HL6.out.trans (hl7.mono HL6.out.size)); have HM7 := Lib.hid (HM6.out.low hl7); have HN7 := Lib.hid (HN6.out.low hl7); clear hl7 q0 q1 q2 q3 q4) | (go_at_call 31; refine (HM7.out.same HN7.out Hck.out hc bc2 hc5 bc5).mono ?_; rintro e w8 ⟨rfl, hl8⟩; have HZ8 := Lib.hid (HZ7.out.low hl8 HZ7.out.lt0); have HY8 := Lib.hid (HY7.out.low hl8 HY7.out.lt0); have HL8 := Lib.hid (HL7.out.trans (hl8.mono HL7.out.size)); have HM8 := Lib.hid (HM7.out.low hl8); clear hl8 t0 t1 t2 t3 t4 u0 u1 u2 u3 u4))
  clear HZ6 HY6 HM6 HN6 HZ7 HY7 HM7 HN7
  obtain ⟨sz, hsz, hs1, hs2⟩ : ∃ sz : Nat, 1 + q % 4095 = (sz : Int) ∧ 1 ≤ sz ∧ sz ≤ 4095 := by
    have h0 := Int.emod_nonneg q (show (4095 : Int) ≠ 0 by decide)
    have h5 := Int.emod_lt_of_pos q (show (0 : Int) < 4095 by decide)
    exact ⟨(1 + q % 4095).toNat, by omega, by omega, by omega⟩
  have hwz : IntKind.i64.wrap (sz : Int) = (sz : Int) := by rw [IntKind.wrap_i64]; omega
  have HLd := Lib.hid HL8.out.drew
  have HZd := Lib.hid (HZ8.out.low (Low.refl _ w8).drew HZ8.out.lt0)
  have HYd := Lib.hid (HY8.out.low (Low.refl _ w8).drew HY8.out.lt0)
  have HMd := Lib.hid (HM8.out.low (Low.refl _ w8).drew)
  have HBr := Lib.hid (fun (w1 : World) => bring_calls q 4095 w1 (by decide) (by decide))
  have hCh := chunked_calls m sz hA bA hc bc2 w8.drew hs1 hs2 (HG.out _ HLd.out) (HT.out _ HLd.out) (HD.out _ HLd.out) Hck.out HMd.out.heads HMd.out.ha HMd.out.body HMd.out.ba Hbc.out
  have H5d := Lib.hid HZd.out.five
  by_cases hbig : 8192 < (chunkedM m sz).length
  · simp only [ChTold, if_pos hbig] at hCh
    have h500 : 500 < m.body.length := by
      rcases Nat.lt_or_ge 500 m.body.length with h | h
      · exact h
      · have := chunked_len Hck.out sz hs1 h
        omega
    have d5 : decide ((500 : Int) < (m.body.length : Int)) = true := by simp; omega
    have HCh := Lib.hid hCh
    clear hCh hbig h500
    go_region_held3 (fun wx => wx.cell? ⟨w2.heap.size, 0, none⟩ = some (.string (bs m.me)) ∧ wx.cell? ⟨w2.heap.size, 1, none⟩ = some (.string (bs m.pa)) ∧ wx.cell? ⟨w2.heap.size, 2, none⟩ = some (.int .i64 m.st) ∧ wx.cell? ⟨w2.heap.size, 3, none⟩ = some (.slice hA m.hs.length hc) ∧ wx.cell? ⟨w2.heap.size, 4, none⟩ = some (.slice bA m.body.length bc2))
      (first | with_reducible exact H5d.out | with_reducible exact H59.out)
      (first | (go_at_call 12; with_reducible refine (HBr.out _).mono ?_; rintro e wy ⟨rfl, rfl⟩) | (go_at_call 32; with_reducible refine HCh.out.mono ?_; rintro e w9 ⟨rfl, hl9⟩; have HZ9 := Lib.hid (HZd.out.low hl9 HZd.out.lt0); have H59 := Lib.hid HZ9.out.five; have HL9 := Lib.hid (HLd.out.trans (hl9.mono HLd.out.size)); clear hl9))
    go_wp2_with fail
    go_ret
    exact ⟨rfl, HL9.out⟩
  · simp only [ChTold, if_neg hbig] at hCh
    have hpc := parse_chunked Hck.out sz hs1 (by omega)
    have HPc := Lib.hid hpc
    generalize chunkedM m sz = cM at *
    have HCh := Lib.hid hCh
    clear hCh hbig hpc
    go_region_held3 (fun wx => wx.cell? ⟨w2.heap.size, 0, none⟩ = some (.string (bs m.me)) ∧ wx.cell? ⟨w2.heap.size, 1, none⟩ = some (.string (bs m.pa)) ∧ wx.cell? ⟨w2.heap.size, 2, none⟩ = some (.int .i64 m.st) ∧ wx.cell? ⟨w2.heap.size, 3, none⟩ = some (.slice hA m.hs.length hc) ∧ wx.cell? ⟨w2.heap.size, 4, none⟩ = some (.slice bA m.body.length bc2))
      (first | with_reducible exact H5d.out | with_reducible exact H59.out)
      (first | (go_at_call 12; with_reducible refine (HBr.out _).mono ?_; rintro e wy ⟨rfl, rfl⟩) | (go_at_call 32; with_reducible refine HCh.out.mono ?_; rintro e w9 ⟨⟨v9, rfl, ho9⟩, hl9⟩; obtain ⟨A9, c9, rfl, hc9, hB9, hA9⟩ := ho9.slice; have HZ9 := Lib.hid (HZd.out.low hl9 HZd.out.lt0); have HY9 := Lib.hid (HYd.out.low hl9 HYd.out.lt0); have H59 := Lib.hid HZ9.out.five; have HL9 := Lib.hid (HLd.out.trans (hl9.mono HLd.out.size)); have HM9 := Lib.hid (HMd.out.low hl9); have HP9 := Lib.hid (parse_ok_calls A9 cM c9 w9 m hB9 hc9 (fun ad e => (hA9 ad e).2.1) (HG.out _ HL9.out) HPc.out); clear hl9 ho9 hc9 hB9 hA9))
    go_wp2_with fail
    refine HP9.out.mono ?_
    rintro e w10 ⟨hA10, hc10, bA10, bc10, rfl, hm10, hb10, hl10, ha10, hB10⟩
    have HZ10 := Lib.hid (HZ9.out.low hl10 HZ9.out.lt0)
    have HY10 := Lib.hid (HY9.out.low hl10 HY9.out.lt0)
    have HL10 := Lib.hid (HL9.out.trans (hl10.mono HL9.out.size))
    have HM10 := Lib.hid (HM9.out.low hl10)
    have HN10 := Lib.hid hm10
    have HR9 := Lib.hid HY9.out.lt0
    have Hha := Lib.hid (fun (ad : Addr) (e : hA10 = some ad) => (show ad.block ≠ w5.heap.size from by have h1 := ha10 ad e; have h2 := HR9.out; omega))
    have Hba := Lib.hid (fun (ad : Addr) (e : bA10 = some ad) => (show ad.block ≠ w5.heap.size from by have h1 := hB10 ad e; have h2 := HR9.out; omega))
    have hw5 : w.heap.size ≤ w5.heap.size := HL5.out.size
    obtain ⟨u0, u1, u2, u3, u4⟩ := HY10.out.five
    have k0 := HY10.out.f 0
    have k1 := HY10.out.f 1
    have k2 := HY10.out.f 2
    have k3 := HY10.out.f 3
    have k4 := HY10.out.f 4
    have HZf := Lib.hid (show ZRow (((((w10.setCell ⟨w5.heap.size, 0, none⟩ (.string (bs m.me))).setCell ⟨w5.heap.size, 1, none⟩ (.string (bs m.pa))).setCell ⟨w5.heap.size, 2, none⟩ (.int .i64 m.st)).setCell ⟨w5.heap.size, 3, none⟩ (.slice hA10 m.hs.length hc10)).setCell ⟨w5.heap.size, 4, none⟩ (.slice bA10 m.body.length bc10)) w2.heap.size (bs m.me) (bs m.pa) m.st (.slice hA m.hs.length hc) (.slice bA m.body.length bc2) from ⟨(set5_ne _ _ _ _ _ _ _ _ (Nat.ne_of_lt HRR.out)).trans HZ10.out.out⟩)
    have HYf := Lib.hid (show ZRow (((((w10.setCell ⟨w5.heap.size, 0, none⟩ (.string (bs m.me))).setCell ⟨w5.heap.size, 1, none⟩ (.string (bs m.pa))).setCell ⟨w5.heap.size, 2, none⟩ (.int .i64 m.st)).setCell ⟨w5.heap.size, 3, none⟩ (.slice hA10 m.hs.length hc10)).setCell ⟨w5.heap.size, 4, none⟩ (.slice bA10 m.body.length bc10)) w5.heap.size (bs m.me) (bs m.pa) m.st (.slice hA10 m.hs.length hc10) (.slice bA10 m.body.length bc10) from HY10.out.to)
    have HLf := Lib.hid (low_set5 (v0 := .string (bs m.me)) (v1 := .string (bs m.pa)) (v2 := .int .i64 m.st) (v3 := .slice hA10 m.hs.length hc10) (v4 := .slice bA10 m.body.length bc10) HL10.out hw5)
    have HMf := Lib.hid (HM10.out.other (w1 := ((((w10.setCell ⟨w5.heap.size, 0, none⟩ (.string (bs m.me))).setCell ⟨w5.heap.size, 1, none⟩ (.string (bs m.pa))).setCell ⟨w5.heap.size, 2, none⟩ (.int .i64 m.st)).setCell ⟨w5.heap.size, 3, none⟩ (.slice hA10 m.hs.length hc10)).setCell ⟨w5.heap.size, 4, none⟩ (.slice bA10 m.body.length bc10)) (R := w5.heap.size) (by simp [World.setCell]) (fun j hj => set5_ne _ _ _ _ _ _ _ _ hj) (fun ad e => by have h1 := HMh.out ad e; have h2 := HRR.out; omega) (fun ad e => by have h1 := HMb.out ad e; have h2 := HRR.out; omega))
    have HNf := Lib.hid (HN10.out.other (w1 := ((((w10.setCell ⟨w5.heap.size, 0, none⟩ (.string (bs m.me))).setCell ⟨w5.heap.size, 1, none⟩ (.string (bs m.pa))).setCell ⟨w5.heap.size, 2, none⟩ (.int .i64 m.st)).setCell ⟨w5.heap.size, 3, none⟩ (.slice hA10 m.hs.length hc10)).setCell ⟨w5.heap.size, 4, none⟩ (.slice bA10 m.body.length bc10)) (R := w5.heap.size) (by simp [World.setCell]) (fun j hj => set5_ne _ _ _ _ _ _ _ _ hj) Hha.out Hba.out)
    clear hl10 hm10 hb10 ha10 hB10 HZ9 HY9 HM9 HP9
    go_upto_region 12 with fail
    generalize ((((w10.setCell ⟨w5.heap.size, 0, none⟩ (.string (bs m.me))).setCell ⟨w5.heap.size, 1, none⟩ (.string (bs m.pa))).setCell ⟨w5.heap.size, 2, none⟩ (.int .i64 m.st)).setCell ⟨w5.heap.size, 3, none⟩ (.slice hA10 m.hs.length hc10)).setCell ⟨w5.heap.size, 4, none⟩ (.slice bA10 m.body.length bc10) = W11 at *
    clear u0 u1 u2 u3 u4 k0 k1 k2 k3 k4
    obtain ⟨q0, q1, q2, q3, q4⟩ := HZf.out.five
    obtain ⟨u0, u1, u2, u3, u4⟩ := HYf.out.five
    go_wp2_with (first | (go_at_call 31; refine (HMf.out.same HNf.out Hck.out hc bc2 hc10 bc10).mono ?_; rintro e w12 ⟨rfl, hl12⟩))
    go_ret
    exact ⟨rfl, HLf.out.trans (hl12.mono HLf.out.size)⟩
end Go.Proofs.YtcognpibphpadaaGreatDoor
