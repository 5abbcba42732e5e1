/- What http.written writes. -/
import Derived.Test.YtcognpibphpadaaGreatDoorZSame
import Derived.Test.YtcognpibphpadaaGreatDoorZCmp
import Derived.Deep.RegionHeld3
set_option linter.unusedVariables false
set_option linter.unusedSimpArgs false
namespace Go.Proofs.YtcognpibphpadaaGreatDoor
open Go.RowKit

/-- The library's table of powers of ten, as it is laid. -/
structure Tab10 (w : World) : Prop where
  out : Lib.TabIs Tryz.prog w "internal/strconv.uint64pow10" .u64 Lib.pow10Tab
theorem tab_named : Tryz.prog.globalNamed "internal/strconv.uint64pow10" = some 2 := by kernel_rfl
theorem Tab10.lt {w : World} (h : Tab10 w) : 2 < w.heap.size := by
  have h1 := h.out
  unfold Lib.TabIs World.var? at h1
  rw [tab_named] at h1
  rcases Nat.lt_or_ge 2 w.heap.size with h2 | h2
  · exact h2
  · simp [Array.getElem?_eq_none h2] at h1
theorem Tab10.low {w w1 : World} (h : Tab10 w) {b : Nat} (hl : Low b w w1) (hb : 2 < b) : Tab10 w1 := by
  refine ⟨?_⟩
  have h1 := h.out
  unfold Lib.TabIs World.var? at h1 ⊢
  rw [tab_named] at h1 ⊢
  simp only [Option.bind_some] at h1 ⊢
  rw [hl.out.block 2 hb]
  exact h1
theorem low_grow (w : World) (k : Nat) (os : Array Obj) : Low w.heap.size w (Go.Sort.grow (w.drewN k) os) :=
  ⟨⟨rfl, rfl, rfl, by simp [Go.Sort.grow], fun j hj => by
    show (w.heap ++ os)[j]? = w.heap[j]?
    exact Array.getElem?_append_left hj⟩⟩
theorem itoa_calls (n : Nat) (hn : n < 10000) (w : World) (ht : Tab10 w) : Calls Tryz.prog 55 #[.int .i64 (n : Int)] w fun e w' => e = .returned (.string (bs (decB n))) ∧ Low w.heap.size w w' := by
  refine (Tryz.strconv_Itoa (n : Int) (by omega) (by omega) w ht.out).mono ?_
  rintro e w' ⟨rfl, k, os, rfl⟩
  rw [itoa_dec n hn]
  exact ⟨rfl, low_grow w k os⟩
theorem BOwn.weak0 {w : World} {b b' : Nat} {v : Value} {l : B} (h : BOwn w b v l) (hb : b' ≤ b) : BOwn w b' v l := by
  refine ⟨h.out.1, ?_⟩
  rcases h.out.2 with hn | ⟨g, cap, cur, rfl, hg, r⟩
  · exact .inl hn
  · exact .inr ⟨g, cap, cur, rfl, Nat.le_trans hb hg, r⟩
theorem Buf.low {w w1 : World} {b c : Nat} {l : B} (h : Buf w b l) (hl : Low c w w1) (hc : w.heap.size ≤ c) : Buf w1 b l := by
  obtain ⟨hB, v, lr, hb, ho, hn⟩ := h.out
  refine ⟨hB, v, lr, (hl.out.block b (Nat.lt_of_lt_of_le h.lt hc)).trans hb, ?_, hn⟩
  have h1 : BOwn w b v l := ⟨by rw [← bcs_length l]; exact ho⟩
  have h2 := (h1.low hl hc).out
  rw [bcs_length]
  exact h2
theorem buf_fresh (w : World) : Buf (w.alloc (.cells #[.slice none 0 0, .int .i64 0, .int .i8 0] 150)) w.heap.size [] := ⟨Lib.fresh_isBuffer 150 5 w⟩
theorem buf_str (b : Nat) (l t : B) (s : ByteArray) (w : World) (h : Buf w b l) (hs : s = bs t) (hl : l.length ≤ 1000000) (ht : t.length ≤ 1000000) :
    Calls Tryz.prog 115 #[.pointer (some ⟨b, 0, none⟩), .string s] w fun e w' => (∃ v, e = .returned v) ∧ Buf w' b (l ++ t) ∧ Low b w w' := by
  subst hs
  exact buf_string b l t w h hl ht
theorem BOwn.none0 {w : World} {b : Nat} {l : B} {n c : Nat} (h : BOwn w b (.slice none n c) l) : c = 0 := by
  rcases h.out.2 with hn | ⟨g, cap, cur, he, hg, r⟩
  · have := hn.1
    simp at this
    exact this.2
  · simp at he
theorem May.check {m : Msg} (h : May m) : checkH m.hs = 0 := by
  have h2 : ¬ (m.hs.any fun h => !mayH h) = true := by
    simp only [Bool.not_eq_true, List.any_eq_false, Bool.not_eq_true']
    intro x hx
    simp [h.may x hx]
  have := h.n
  unfold checkH
  rw [if_neg (by omega), if_neg h2]
theorem written_eq (m : Msg) (frame behind : B) : startM m ++ [13, 10] ++ wLines (m.hs.map hLine) ++ (frame ++ [13, 10, 13, 10]) ++ behind = writtenM m frame behind := by
  unfold writtenM
  rw [wl_app]
  simp [wLines]
theorem end_bts {w : World} (h : Glob w) : Bts w (some ⟨0, 0, none⟩) [13, 10] := ⟨fun j hj => by
  have h2 : j < 2 := hj
  match j, h2 with
  | 0, _ => exact ⟨_, rfl, h.end0⟩
  | 1, _ => exact ⟨_, rfl, h.end1⟩⟩

set_option maxHeartbeats 16000000 in
set_option maxRecDepth 100000 in
theorem written_calls (m : Msg) (frame behind : B) (hA bA kA : Option Addr) (hc bc kc : Nat) (w : World) (hg : Glob w) (ht : Tab10 w) (hm : May m)
    (hh : Hds w hA m.hs) (hHA : ∀ ad, hA = some ad → ad.block < w.heap.size) (hk : Bts w kA behind) (hKA : ∀ ad, kA = some ad → ad.block < w.heap.size)
    (hf : frame.length ≤ 1000) (hb : behind.length ≤ 500000) :
    Calls Tryz.prog 65 #[.agg #[.string (bs m.me), .string (bs m.pa), .int .i64 m.st, .slice hA m.hs.length hc, .slice bA m.body.length bc], .string (bs frame), .slice kA behind.length kc] w
      fun e w' => ∃ v, e = .returned (.tuple #[v, .int .i64 0]) ∧ BOwn w' w.heap.size v (writtenM m frame behind) ∧ Low w.heap.size w w' := by
  have HC := Lib.hid hm.check
  have HF := Lib.hid hm.first.2.2
  have HW := Lib.hid (written_eq m frame behind)
  have HS := Lib.hid (show startM m = if m.st = 0 then m.me ++ 32 :: (m.pa ++ 32 :: ver) else startS m.st.toNat from rfl)
  have Hst : Hid (m.st = 0 ∨ (100 ≤ m.st ∧ m.st ≤ 599)) := by
    rcases hm.fine with ⟨_, _, h⟩ | ⟨_, _, h1, h2⟩
    · exact Lib.hid (.inl h)
    · exact Lib.hid (.inr ⟨h1, h2⟩)
  have HMa := Lib.hid hm.may
  have H16 := Lib.hid hm.n
  have hWl : (wLines (m.hs.map hLine)).length ≤ 4000 := by
    have := wl_le 232 (m.hs.map hLine) (fun t ht => by
      obtain ⟨x, hx, rfl⟩ := List.mem_map.1 ht
      exact (may_line (hm.may x hx)).2.2.1)
    have h3 : (m.hs.map hLine).length ≤ 16 := by rw [List.length_map]; exact hm.n
    have := Nat.mul_le_mul h3 (Nat.le_refl (232 + 2))
    omega
  have HWl := Lib.hid hWl
  clear hWl hm
  obtain ⟨me, pa, st, hs, body⟩ := m
  dsimp only at *
  generalize startM ⟨me, pa, st, hs, body⟩ = sM at HF HW HS
  generalize writtenM ⟨me, pa, st, hs, body⟩ frame behind = wM at HW ⊢
  have HG := Lib.hid hg
  have HT := Lib.hid ht
  have H1 := Lib.hid (fun (w1 : World) (hl : Low w.heap.size w w1) => hbytes_calls hA hs hc w1 (hh.far hl hHA) (fun ad e => Nat.lt_of_lt_of_le (hHA ad e) hl.size) HC.out HMa.out H16.out)
  have HK := Lib.hid hk
  have HKA := Lib.hid hKA
  have Hb := Lib.hid hb
  have Hf := Lib.hid hf
  have e10 : (bs frame ++ ⟨#[13, 10, 13, 10]⟩ : ByteArray) = bs (frame ++ [13, 10, 13, 10]) := by
    apply ByteArray.ext
    simp [bs, ByteArray.data_append]
  have z10 : ¬ 9223372036854775807 < (bs frame).size + 4 := by rw [bs_size]; omega
  have E10 := Lib.hid e10
  -- the box and the buffer
  have hz := (Low.refl w.heap.size w).alloc (Nat.le_refl _) (.cells #[.string (bs me), .string (bs pa), .int .i64 st, .slice hA hs.length hc, .slice bA body.length bc] 29)
  have HL1 := Lib.hid (hz.alloc (by simp) (.cells #[.slice none 0 0, .int .i64 0, .int .i8 0] 150))
  have hZ : ZRow ((w.alloc (.cells #[.string (bs me), .string (bs pa), .int .i64 st, .slice hA hs.length hc, .slice bA body.length bc] 29)).alloc (.cells #[.slice none 0 0, .int .i64 0, .int .i8 0] 150)) w.heap.size (bs me) (bs pa) st (.slice hA hs.length hc) (.slice bA body.length bc) :=
    ⟨(Below.heap_alloc _ _ w.heap.size (by simp)).trans (heap_alloc_new w _)⟩
  have HZ := Lib.hid hZ
  have hbf := buf_fresh (w.alloc (.cells #[.string (bs me), .string (bs pa), .int .i64 st, .slice hA hs.length hc, .slice bA body.length bc] 29))
  rw [show (w.alloc (.cells #[.string (bs me), .string (bs pa), .int .i64 st, .slice hA hs.length hc, .slice bA body.length bc] 29)).heap.size = w.heap.size + 1 by simp] at hbf
  have HBf := Lib.hid hbf
  clear hz hZ hbf hh hHA hk hKA hb hf hg ht e10
  have E4 := Lib.hid (show (bs me ++ ⟨#[32]⟩ ++ bs pa ++ ⟨#[32]⟩ ++ ⟨#[72, 84, 84, 80, 47, 49, 46, 49]⟩ : ByteArray) = bs (me ++ 32 :: (pa ++ 32 :: ver)) by
    apply ByteArray.ext
    simp [bs, ByteArray.data_append, ver])
  have HR := Lib.hid (show w.heap.size + 1 < ((w.alloc (.cells #[.string (bs me), .string (bs pa), .int .i64 st, .slice hA hs.length hc, .slice bA body.length bc] 29)).alloc (.cells #[.slice none 0 0, .int .i64 0, .int .i8 0] 150)).heap.size by simp)
  by_cases hst : st = 0
  · subst hst
    rw [if_pos rfl] at HS
    have z1 : (bs me).size + 1 + (bs pa).size + 1 + 8 < 1000 := by
      have := HF.out
      rw [HS.out] at this
      simp at this
      rw [bs_size, bs_size]; omega
    have z2 : ¬ 9223372036854775807 < (bs me).size + 1 := by omega
    have z3 : ¬ 9223372036854775807 < (bs me).size + 1 + (bs pa).size := by omega
    have z4 : ¬ 9223372036854775807 < (bs me).size + 1 + (bs pa).size + 1 := by omega
    have z5 : ¬ 9223372036854775807 < (bs me).size + 1 + (bs pa).size + 1 + 8 := by omega
    go_enter Tryz.func65, Tryz.ntmps65
    go_wp2_with (first | (go_at_call 115; refine (buf_str (w.heap.size + 1) [] (me ++ 32 :: (pa ++ 32 :: ver)) _ _ HBf.out E4.out (by simp) (by have := HF.out; rw [HS.out] at this; omega)).mono ?_; rintro e w2 ⟨⟨v2, rfl⟩, hb2, hl2⟩; rw [List.nil_append, ← HS.out] at hb2; have HB2 := Lib.hid hb2; have hl20 := HL1.out.trans (hl2.mono (Nat.le_succ _)); have HL2 := Lib.hid hl20; have HZ2 := Lib.hid (HZ.out.low hl2 (Nat.lt_succ_self _)); clear hb2 hl2 hl20 z1 z2 z3 z4 z5))
    refine (buf_write (w.heap.size + 1) sM [13, 10] (some ⟨0, 0, none⟩) 2 w2 HB2.out (end_bts (HG.out.low HL2.out HG.out.lt)) (by rintro a ha; cases ha; exact Nat.ne_of_lt (Nat.succ_pos _)) (by have := HF.out; omega) (by simp)).mono ?_
    rintro e w3 ⟨⟨v3, rfl⟩, hb3, hl3⟩
    have HB3 := Lib.hid hb3
    have HL3 := Lib.hid (HL2.out.trans (hl3.mono (Nat.le_succ _)))
    have hZ3 := HZ2.out.low hl3 (Nat.lt_succ_self _)
    have q3 := hZ3.cell 3
    simp at q3
    have HZ3 := Lib.hid hZ3
    clear hb3 hl3 hZ3
    go_wp2_with fail
    refine (H1.out _ HL3.out).mono ?_
    rintro e w4 ⟨v4, rfl, ho4, hl4⟩
    obtain ⟨A4, c4, rfl, hc4, hB4, hA4⟩ := ho4.slice
    have HB4 := Lib.hid (HB3.out.low hl4 (Nat.le_refl _))
    have HL4 := Lib.hid (HL3.out.trans (hl4.mono HL3.out.size))
    have HBt4 := Lib.hid hB4
    have HA4 := Lib.hid (fun (a : Addr) (ha : A4 = some a) => (show a.block ≠ w.heap.size + 1 from by have h1 := (hA4 a ha).1; have h2 := HB3.out.lt; omega))
    clear ho4 hl4 hB4 hA4 q3 hc4
    go_wp2_with fail
    refine (buf_write (w.heap.size + 1) (sM ++ [13, 10]) (wLines (List.map hLine hs)) A4 c4 w4 HB4.out HBt4.out HA4.out (by have := HF.out; simp; omega) (by have := HWl.out; omega)).mono ?_
    rintro e w5 ⟨⟨v5, rfl⟩, hb5, hl5⟩
    have HB5 := Lib.hid hb5
    have HL5 := Lib.hid (HL4.out.trans (hl5.mono (Nat.le_succ _)))
    clear hb5 hl5
    go_wp2_with fail
    refine (buf_str (w.heap.size + 1) (sM ++ [13, 10] ++ wLines (List.map hLine hs)) (frame ++ [13, 10, 13, 10]) _ w5 HB5.out E10.out (by have := HF.out; have := HWl.out; simp; omega) (by have := Hf.out; simp; omega)).mono ?_
    rintro e w6 ⟨⟨v6, rfl⟩, hb6, hl6⟩
    have HB6 := Lib.hid hb6
    have HL6 := Lib.hid (HL5.out.trans (hl6.mono (Nat.le_succ _)))
    clear hb6 hl6
    go_wp2_with fail
    refine (buf_write (w.heap.size + 1) (sM ++ [13, 10] ++ wLines (List.map hLine hs) ++ (frame ++ [13, 10, 13, 10])) behind kA kc w6 HB6.out (HK.out.far HL6.out HKA.out) (fun a ha => by have := HKA.out a ha; omega) (by have := HF.out; have := HWl.out; have := Hf.out; simp; omega) (by have := Hb.out; omega)).mono ?_
    rintro e w7 ⟨⟨v7, rfl⟩, hb7, hl7⟩
    rw [HW.out] at hb7
    have HB7 := Lib.hid hb7
    have HL7 := Lib.hid (HL6.out.trans (hl7.mono (Nat.le_succ _)))
    clear hb7 hl7
    go_wp2_with fail
    refine (buf_bytes (w.heap.size + 1) wM w7 HB7.out).mono ?_
    rintro e w8 ⟨v8, rfl, ho8, hl8⟩
    have HO8 := Lib.hid (ho8.weak0 (Nat.le_succ w.heap.size))
    have HL8 := Lib.hid (HL7.out.trans (hl8.mono HL7.out.size))
    clear ho8 hl8
    go_wp2
    go_ret2
    exact ⟨v8, rfl, HO8.out, HL8.out⟩
  · obtain ⟨k, rfl⟩ : ∃ k : Nat, st = (k : Int) := ⟨st.toNat, by rcases Hst.out with h | h <;> omega⟩
    have hk : 100 ≤ k ∧ k ≤ 599 := by rcases Hst.out with h | h <;> omega
    rw [if_neg hst] at HS
    have b1 : ((k : Int) == 0) = false := by simp; omega
    have HI := Lib.hid (fun (w1 : World) (hl : Low w.heap.size w w1) => itoa_calls k (by omega) w1 (HT.out.low hl (Nat.lt_of_lt_of_le (by decide) HG.out.lt)))
    have HWd := Lib.hid (fun (w1 : World) => word_calls (k : Int) w1)
    have E5 := Lib.hid (show (⟨#[72, 84, 84, 80, 47, 49, 46, 49, 32]⟩ ++ bs (decB k) ++ ⟨#[32]⟩ ++ bs (wordB (k : Int)) : ByteArray) = bs (startS k) by
      apply ByteArray.ext
      simp [bs, ByteArray.data_append, startS, verSp])
    have hd := dec_noEnd k (by omega)
    have hwd : (wordB (k : Int)).length ≤ 30 := by
      unfold wordB
      repeat' split
      all_goals decide
    have z1 : ¬ 9223372036854775807 < 9 + (bs (decB k)).size := by rw [bs_size]; omega
    have z2 : ¬ 9223372036854775807 < 9 + (bs (decB k)).size + 1 := by rw [bs_size]; omega
    have z3 : ¬ 9223372036854775807 < 9 + (bs (decB k)).size + 1 + (bs (wordB (k : Int))).size := by rw [bs_size, bs_size]; omega
    have c2 := HZ.out.cell 2
    rw [Int.toNat_natCast] at HS
    have HLd := Lib.hid HL1.out.drew
    have HZd := Lib.hid (HZ.out.low (Low.refl _ _).drew (Nat.lt_of_succ_lt HR.out))
    have HBd := Lib.hid (HBf.out.low (Low.refl _ _).drew (Nat.le_refl _))
    have HRd := Lib.hid (show w.heap.size < ((w.alloc (.cells #[.string (bs me), .string (bs pa), .int .i64 (k : Int), .slice hA hs.length hc, .slice bA body.length bc] 29)).alloc (.cells #[.slice none 0 0, .int .i64 0, .int .i8 0] 150)).drew.heap.size from Nat.lt_of_succ_lt HR.out)
    have Hc0 := Lib.hid (show ((w.alloc (.cells #[.string (bs me), .string (bs pa), .int .i64 (k : Int), .slice hA hs.length hc, .slice bA body.length bc] 29)).alloc (.cells #[.slice none 0 0, .int .i64 0, .int .i8 0] 150)).drew.cell? ⟨w.heap.size, 2, none⟩ = some (.int .i64 (k : Int)) from c2.trans rfl)
    clear c2
    generalize decB k = dB at *
    generalize wordB (k : Int) = wB at *
    clear hst hd hwd Hst
    go_enter Tryz.func65, Tryz.ntmps65
    go_wp2_with fail
    go_region_held3 (fun wx => wx.cell? ⟨w.heap.size, 2, none⟩ = some (.int .i64 (k : Int)))
      (first | with_reducible exact Hc0.out | with_reducible exact Hc2.out | with_reducible exact Hc3.out)
      (first | (go_at_call 55; with_reducible refine (HI.out _ HLd.out).mono ?_; rintro e w1 ⟨rfl, hl1⟩; have Hc2 := Lib.hid ((hl1.cell (p := ⟨w.heap.size, 2, none⟩) HRd.out).trans Hc0.out); have HB1 := Lib.hid (HBd.out.low hl1 (Nat.le_refl _)); have HLx := Lib.hid (HLd.out.trans (hl1.mono HLd.out.size)); have HZ1 := Lib.hid (HZd.out.low hl1 HRd.out); clear hl1) | (go_at_call 39; with_reducible refine (HWd.out _).mono ?_; rintro e wy ⟨rfl, rfl⟩) | (go_at_call 115; refine (buf_str (w.heap.size + 1) [] (startS k) _ _ HB1.out E5.out (by simp) (by have := HF.out; rw [HS.out] at this; omega)).mono ?_; rintro e w2 ⟨⟨v2, rfl⟩, hb2, hl2⟩; rw [List.nil_append, ← HS.out] at hb2; have HB2 := Lib.hid hb2; have hl20 := HLx.out.trans (hl2.mono (Nat.le_succ _)); have HL2 := Lib.hid hl20; have hz2 := HZ1.out.low hl2 (Nat.lt_succ_self _); have hc3 := hz2.cell 2; simp at hc3; have HZ2 := Lib.hid hz2; have Hc3 := Lib.hid hc3; clear hb2 hl2 hl20 z1 z2 z3))
    go_wp2_with fail
    refine (buf_write (w.heap.size + 1) sM [13, 10] (some ⟨0, 0, none⟩) 2 w2 HB2.out (end_bts (HG.out.low HL2.out HG.out.lt)) (by rintro a ha; cases ha; exact Nat.ne_of_lt (Nat.succ_pos _)) (by have := HF.out; omega) (by simp)).mono ?_
    rintro e w3 ⟨⟨v3, rfl⟩, hb3, hl3⟩
    have HB3 := Lib.hid hb3
    have HL3 := Lib.hid (HL2.out.trans (hl3.mono (Nat.le_succ _)))
    have hZ3 := HZ2.out.low hl3 (Nat.lt_succ_self _)
    have q3 := hZ3.cell 3
    simp at q3
    have HZ3 := Lib.hid hZ3
    clear hb3 hl3 hZ3
    go_wp2_with fail
    refine (H1.out _ HL3.out).mono ?_
    rintro e w4 ⟨v4, rfl, ho4, hl4⟩
    obtain ⟨A4, c4, rfl, hc4, hB4, hA4⟩ := ho4.slice
    have HB4 := Lib.hid (HB3.out.low hl4 (Nat.le_refl _))
    have HL4 := Lib.hid (HL3.out.trans (hl4.mono HL3.out.size))
    have HBt4 := Lib.hid hB4
    have HA4 := Lib.hid (fun (a : Addr) (ha : A4 = some a) => (show a.block ≠ w.heap.size + 1 from by have h1 := (hA4 a ha).1; have h2 := HB3.out.lt; omega))
    clear ho4 hl4 hB4 hA4 q3 hc4
    go_wp2_with fail
    refine (buf_write (w.heap.size + 1) (sM ++ [13, 10]) (wLines (List.map hLine hs)) A4 c4 w4 HB4.out HBt4.out HA4.out (by have := HF.out; simp; omega) (by have := HWl.out; omega)).mono ?_
    rintro e w5 ⟨⟨v5, rfl⟩, hb5, hl5⟩
    have HB5 := Lib.hid hb5
    have HL5 := Lib.hid (HL4.out.trans (hl5.mono (Nat.le_succ _)))
    clear hb5 hl5
    go_wp2_with fail
    refine (buf_str (w.heap.size + 1) (sM ++ [13, 10] ++ wLines (List.map hLine hs)) (frame ++ [13, 10, 13, 10]) _ w5 HB5.out E10.out (by have := HF.out; have := HWl.out; simp; omega) (by have := Hf.out; simp; omega)).mono ?_
    rintro e w6 ⟨⟨v6, rfl⟩, hb6, hl6⟩
    have HB6 := Lib.hid hb6
    have HL6 := Lib.hid (HL5.out.trans (hl6.mono (Nat.le_succ _)))
    clear hb6 hl6
    go_wp2_with fail
    refine (buf_write (w.heap.size + 1) (sM ++ [13, 10] ++ wLines (List.map hLine hs) ++ (frame ++ [13, 10, 13, 10])) behind kA kc w6 HB6.out (HK.out.far HL6.out HKA.out) (fun a ha => by have := HKA.out a ha; omega) (by have := HF.out; have := HWl.out; have := Hf.out; simp; omega) (by have := Hb.out; omega)).mono ?_
    rintro e w7 ⟨⟨v7, rfl⟩, hb7, hl7⟩
    rw [HW.out] at hb7
    have HB7 := Lib.hid hb7
    have HL7 := Lib.hid (HL6.out.trans (hl7.mono (Nat.le_succ _)))
    clear hb7 hl7
    go_wp2_with fail
    refine (buf_bytes (w.heap.size + 1) wM w7 HB7.out).mono ?_
    rintro e w8 ⟨v8, rfl, ho8, hl8⟩
    have HO8 := Lib.hid (ho8.weak0 (Nat.le_succ w.heap.size))
    have HL8 := Lib.hid (HL7.out.trans (hl8.mono HL7.out.size))
    clear ho8 hl8
    go_wp2
    go_ret2
    exact ⟨v8, rfl, HO8.out, HL8.out⟩
end Go.Proofs.YtcognpibphpadaaGreatDoor
