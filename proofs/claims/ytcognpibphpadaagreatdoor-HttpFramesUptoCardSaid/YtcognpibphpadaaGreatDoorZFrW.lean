/- The walk of HttpFrames. -/
import Derived.Test.YtcognpibphpadaaGreatDoorZMade
import Derived.Test.YtcognpibphpadaaGreatDoorZLawc
set_option linter.unusedVariables false
set_option linter.unusedSimpArgs false
namespace Go.Proofs.YtcognpibphpadaaGreatDoor
open Go.RowKit

theorem quiet_same0 {P : Program} {f : FuncId} {args : Array Value} {w : World} {n : Nat} {v : Value} (h : Calls P f args (w.drewN n) fun e w' => e = .returned v ∧ w' = w.drewN n) :
    Calls P f args (w.drewN n) fun e w'' => e = .returned v ∧ ∃ m, w'' = w.drewN m := h.mono fun _ _ ⟨he, hm⟩ => ⟨he, n, hm⟩

set_option maxHeartbeats 8000000 in
set_option maxRecDepth 100000 in
theorem frames_calls (x : Sd) (q0 q1 q2 q3 : Int) (VA BA : Option Addr) (vc bc : Nat) (w : World) (hv : Strs w VA x.vals) (hb : Bts w BA x.body) (hbc : x.body.length ≤ bc)
    (hpa : x.pa.length ≤ 1048576) (hho : x.host.length ≤ 1048576) (hvl : ∀ v ∈ x.vals, v.length ≤ 1048576) (hvn : x.vals.length ≤ 1048576) (hbn : x.body.length ≤ 1048576) (hg : Glob w) :
    Calls Tryz.prog 3 #[.agg #[.int .i64 x.me, .int .i64 x.st, .string (bs x.pa), .string (bs x.host), .slice VA x.vals.length vc, .slice BA x.body.length bc], .agg #[.int .i64 q0, .int .i64 q1, .int .i64 q2, .int .i64 q3]] w fun e w' =>
      e = .returned (.bool true) ∧ Low w.heap.size w w' := by
  obtain ⟨hgood, h13⟩ := madeM_good x
  go_enter Tryz.func3, Tryz.ntmps3
  go_wp2_with fail
  have hl0 := ((Low.refl w.heap.size w).alloc (Nat.le_refl _) (.cells #[.int .i64 x.me, .int .i64 x.st, .string (bs x.pa), .string (bs x.host), .slice VA x.vals.length vc, .slice BA x.body.length bc] 25)).alloc (by simp) (.cells #[.int .i64 q0, .int .i64 q1, .int .i64 q2, .int .i64 q3] 26)
  have hQ : ((w.alloc (.cells #[.int .i64 x.me, .int .i64 x.st, .string (bs x.pa), .string (bs x.host), .slice VA x.vals.length vc, .slice BA x.body.length bc] 25)).alloc (.cells #[.int .i64 q0, .int .i64 q1, .int .i64 q2, .int .i64 q3] 26)).heap[w.heap.size + 1]? = some (.cells #[.int .i64 q0, .int .i64 q1, .int .i64 q2, .int .i64 q3] 26 (0, 0)) := by
    have := heap_alloc_new (w.alloc (.cells #[.int .i64 x.me, .int .i64 x.st, .string (bs x.pa), .string (bs x.host), .slice VA x.vals.length vc, .slice BA x.body.length bc] 25)) (.cells #[.int .i64 q0, .int .i64 q1, .int .i64 q2, .int .i64 q3] 26)
    simpa using this
  have hz0 : ((w.alloc (.cells #[.int .i64 x.me, .int .i64 x.st, .string (bs x.pa), .string (bs x.host), .slice VA x.vals.length vc, .slice BA x.body.length bc] 25)).alloc (.cells #[.int .i64 q0, .int .i64 q1, .int .i64 q2, .int .i64 q3] 26)).heap.size = w.heap.size + 2 := by simp
  generalize (w.alloc (.cells #[.int .i64 x.me, .int .i64 x.st, .string (bs x.pa), .string (bs x.host), .slice VA x.vals.length vc, .slice BA x.body.length bc] 25)).alloc (.cells #[.int .i64 q0, .int .i64 q1, .int .i64 q2, .int .i64 q3] 26) = W at hl0 hQ hz0 ⊢
  refine (made_calls x VA BA vc bc W (hv.low hl0 (Nat.le_refl _)) (hb.low hl0 (Nat.le_refl _)) hbc hpa hho hvl hvn hbn).mono ?_
  rintro e w1 ⟨hA, hc, bA, bc2, rfl, hl1, hO, hBo⟩
  obtain ⟨A', c', e', hle, hHds, hAd⟩ := hO.slice
  cases e'
  generalize madeM x = m at hgood h13 hO hBo hHds
  have hZ : ZRow (w1.alloc (.cells #[.string (bs m.me), .string (bs m.pa), .int .i64 m.st, .slice hA m.hs.length hc, .slice bA m.body.length bc2] 29)) w1.heap.size (bs m.me) (bs m.pa) m.st (.slice hA m.hs.length hc) (.slice bA m.body.length bc2) := ⟨heap_alloc_new w1 _⟩
  have hl2 := (Low.refl w1.heap.size w1).alloc (Nat.le_refl _) (.cells #[.string (bs m.me), .string (bs m.pa), .int .i64 m.st, .slice hA m.hs.length hc, .slice bA m.body.length bc2] 29)
  have hHds2 := hHds.low hl2 (Nat.le_refl _)
  have hL2 : Low w.heap.size w _ := (hl0.trans (hl1.mono hl0.size)).trans (hl2.mono (Nat.le_trans hl0.size hl1.size))
  have hq2 := (hl2.out.block (w.heap.size + 1) (by have := hl1.size; omega)).trans ((hl1.out.block (w.heap.size + 1) (by omega)).trans hQ)
  have hN := strs_new (w1.alloc (.cells #[.string (bs m.me), .string (bs m.pa), .int .i64 m.st, .slice hA m.hs.length hc, .slice bA m.body.length bc2] 29)) names5 _ rfl
  have hl3 := (Low.refl (w1.alloc (.cells #[.string (bs m.me), .string (bs m.pa), .int .i64 m.st, .slice hA m.hs.length hc, .slice bA m.body.length bc2] 29)).heap.size (w1.alloc (.cells #[.string (bs m.me), .string (bs m.pa), .int .i64 m.st, .slice hA m.hs.length hc, .slice bA m.body.length bc2] 29))).alloc (Nat.le_refl _) (.cells (names5.map fun x => Value.string (bs x)).toArray 9)
  have hL3 := hL2.trans (hl3.mono hL2.size)
  have hZ3 := hZ.low hl3 hZ.lt
  have hHds3 := hHds2.low hl3 (Nat.le_refl _)
  have hq3 := (hl3.out.block (w.heap.size + 1) (by have := hl1.size; have := hl2.size; omega)).trans hq2
  have hzz : (w1.alloc (.cells #[.string (bs m.me), .string (bs m.pa), .int .i64 m.st, .slice hA m.hs.length hc, .slice bA m.body.length bc2] 29)).heap.size = w1.heap.size + 1 := by simp
  rw [hzz] at hN
  obtain ⟨W3, hW3⟩ : ∃ W3, (w1.alloc (.cells #[.string (bs m.me), .string (bs m.pa), .int .i64 m.st, .slice hA m.hs.length hc, .slice bA m.body.length bc2] 29)).alloc (.cells (names5.map fun x => Value.string (bs x)).toArray 9) = W3 := ⟨_, rfl⟩
  rw [hW3] at hN hL3 hZ3 hHds3 hq3
  go_wp2_with fail
  rw [show (w1.alloc (.cells #[.string (bs m.me), .string (bs m.pa), .int .i64 m.st, .slice hA m.hs.length hc, .slice bA m.body.length bc2] 29)).alloc (.cells #[.string ⟨#[99, 111, 110, 116, 101, 110, 116, 45, 108, 101, 110, 103, 116, 104, 58, 32, 48]⟩, .string ⟨#[67, 79, 78, 84, 69, 78, 84, 45, 76, 69, 78, 71, 84, 72, 58, 32, 48]⟩, .string ⟨#[116, 114, 97, 110, 115, 102, 101, 114, 45, 101, 110, 99, 111, 100, 105, 110, 103, 58, 32, 99, 104, 117, 110, 107, 101, 100]⟩, .string ⟨#[84, 114, 97, 110, 115, 102, 101, 114, 45, 69, 110, 99, 111, 100, 105, 110, 103, 58, 32, 67, 72, 85, 78, 75, 69, 68]⟩, .string ⟨#[67, 111, 110, 116, 101, 110, 116, 45, 76, 101, 110, 103, 116, 104, 58, 32, 49]⟩] 9) = W3 from hW3]
  clear hW3 hl3 hZ hHds2 hq2 hl2 hQ
  obtain ⟨i0, i5⟩ : 0 ≤ q0 % 5 ∧ q0 % 5 < 5 := ⟨Int.emod_nonneg _ (by decide), Int.emod_lt_of_pos _ (by decide)⟩
  obtain ⟨j0, j5⟩ : 0 ≤ q1 % 5 ∧ q1 % 5 < 5 := ⟨Int.emod_nonneg _ (by decide), Int.emod_lt_of_pos _ (by decide)⟩
  have hn5 : ∀ n : Int, 0 ≤ n % 5 → n % 5 < 5 → W3.cell? ⟨w1.heap.size + 1, (n % 5).toNat, none⟩ = some (.string (bs (frB n))) := fun n h0 h5 => by
    have hlt : (n % 5).toNat < names5.length := by show _ < 5; omega
    obtain ⟨ad, e, hc⟩ := hN.out _ hlt
    cases e
    rw [add0] at hc
    rw [hc]
    unfold frB
    rw [List.getD_eq_getElem?_getD, List.getElem?_eq_getElem hlt]
    rfl
  have n0 := hn5 q0 i0 i5
  have n1 := hn5 q1 j0 j5
  have c0 := cell_of_row W3 (w.heap.size + 1) 0 _ _ _ hq3
  have c1 := cell_of_row W3 (w.heap.size + 1) 1 _ _ _ hq3
  have c2 := cell_of_row W3 (w.heap.size + 1) 2 _ _ _ hq3
  have c3 := cell_of_row W3 (w.heap.size + 1) 3 _ _ _ hq3
  simp at c0 c1 c2 c3
  have HL3 := Lib.hid hL3
  have HZ3 := Lib.hid hZ3
  have HH3 := Lib.hid hHds3
  have HG := Lib.hid hgood
  clear hn5 hN hL3 hZ3 hHds3 hq3 hHds hAd hO hBo hle hl1 hzz hL2 hgood
  go_quiet ((go_at_call 12; exact quiet_same0 (bring_calls _ 5 _ (by decide) (by decide))))
  have hL4 : Low w.heap.size w (W3.drewN nq) := HL3.out.drewN nq
  have hZ4 : ZRow (W3.drewN nq) w1.heap.size _ _ _ _ _ := ⟨HZ3.out.out⟩
  have hH4 := HH3.out.drewN nq
  have d2 : (W3.drewN nq).cell? ⟨w.heap.size + 1, 2, none⟩ = some (.int .i64 q2) := c2
  have d3 : (W3.drewN nq).cell? ⟨w.heap.size + 1, 3, none⟩ = some (.int .i64 q3) := c3
  generalize W3.drewN nq = W4 at hL4 hZ4 hH4 d2 d3 ⊢
  have z3 := hZ4.cell 3
  simp at z3
  clear c0 c1 c2 c3 n0 n1
  have HL4 := Lib.hid hL4
  have HZ4 := Lib.hid hZ4
  have HH4 := Lib.hid hH4
  clear hL4 hZ4 hH4
  have HB := Lib.hid (fun (n : Int) (w : World) => bring_calls n ((m.hs.length : Int) + 1) w (by omega) (by omega))
  go_wp2_with (first | (go_at_call 12; refine (HB.out _ _).mono ?_; rintro e w5 ⟨rfl, rfl⟩))
  have hL : (0 : Int) < (m.hs.length : Int) + 1 := by omega
  obtain ⟨k, hk⟩ : ∃ k : Nat, q2 % ((m.hs.length : Int) + 1) = k := ⟨(q2 % ((m.hs.length : Int) + 1)).toNat, by have := Int.emod_nonneg q2 (b := (m.hs.length : Int) + 1) (by omega); omega⟩
  obtain ⟨l, hl⟩ : ∃ l : Nat, q3 % ((m.hs.length : Int) + 1) = l := ⟨(q3 % ((m.hs.length : Int) + 1)).toNat, by have := Int.emod_nonneg q3 (b := (m.hs.length : Int) + 1) (by omega); omega⟩
  have hk2 : k ≤ m.hs.length := by have := Int.emod_lt_of_pos q2 hL; omega
  have hl2 : l ≤ m.hs.length := by have := Int.emod_lt_of_pos q3 hL; omega
  rw [hk, hl]
  clear hk hl
  go_loopw [7, 12] (fun t i wr => ∃ (j : Nat) (u : B), i = .int .i64 j ∧ t = .string (bs u) ∧ j ≤ m.hs.length + 1 ∧ Low w.heap.size w wr ∧ ZRow wr w1.heap.size (bs m.me) (bs m.pa) m.st (.slice hA m.hs.length hc) (.slice bA m.body.length bc2) ∧ Hds wr hA m.hs ∧
    Hid (startB ++ wLines (blF (frB q0) (frB q1) k l 0 m.hs) = u ++ wLines (if j ≤ m.hs.length then blF (frB q0) (frB q1) k l j (m.hs.drop j) else []))) (fun _ i _ => m.hs.length + 1 - (intOf i).toNat)
  case atStart => exact ⟨0, startB, rfl, rfl, by omega, HL4.out, HZ4.out, HH4.out, Lib.hid (by simp)⟩
  case round =>
    obtain ⟨j, u, rfl, rfl, hj, hLr, hZr, hHr, HE⟩ := hrel
    have y3 := hZr.cell 3
    simp at y3
    have hFin : (startB ++ wLines (blF (frB q0) (frB q1) k l 0 m.hs)).length ≤ 6000 := frames_len q0 q1 k l m.hs HG.out h13
    by_cases hle : j ≤ m.hs.length
    · have d1 : decide ((j : Int) ≤ (m.hs.length : Int)) = true := by simp; omega
      have hE := HE.out
      rw [if_pos hle] at hE
      obtain ⟨pa, hpa⟩ : ∃ pa : B, pa = if j = k then frB q0 ++ [13, 10] else [] := ⟨_, rfl⟩
      obtain ⟨pb, hpb⟩ : ∃ pb : B, pb = if j = l then frB q1 ++ [13, 10] else [] := ⟨_, rfl⟩
      have hwa : wLines (atI j k (frB q0)) = pa := by rw [hpa]; unfold atI; split <;> simp [wLines]
      have hwb : wLines (atI j l (frB q1)) = pb := by rw [hpb]; unfold atI; split <;> simp [wLines]
      by_cases hlt : j < m.hs.length
      · have d2 : decide ((j : Int) < (m.hs.length : Int)) = true := by simp; omega
        rw [bl_step _ _ _ _ _ _ hlt, wl_app, wl_app, wl_one, hwa, hwb] at hE
        obtain ⟨ad, hAe, h0, h1⟩ := hHr.out j hlt
        subst hAe
        generalize hnn : m.hs[j] = hd at h0 h1 hE
        obtain ⟨nm, vl⟩ := hd
        dsimp only [yLine] at h0 h1 hE
        have hsz := congrArg List.length hE
        simp only [List.length_append, List.length_cons] at hsz
        have hNew : startB ++ wLines (blF (frB q0) (frB q1) k l 0 m.hs) = (u ++ (pa ++ (pb ++ (89 :: 45 :: nm ++ 58 :: 32 :: vl ++ [13, 10])))) ++ wLines (if j + 1 ≤ m.hs.length then blF (frB q0) (frB q1) k l (j + 1) (m.hs.drop (j + 1)) else []) := by
          rw [hE, if_pos (by omega)]
          simp
        have HN := Lib.hid hNew
        have HLr := Lib.hid hLr
        have HZr := Lib.hid hZr
        have HHr := Lib.hid hHr
        clear hNew hE hnn hwa hwb hLr hHr HE
        have hF6 : u.length + (pa.length + (pb.length + (nm.length + vl.length + 8))) ≤ 7000 := by
          simp only [List.length_append, List.length_nil] at hFin
          omega
        clear hsz hFin
        have hmeas : m.hs.length + 1 - (j + 1) < m.hs.length + 1 - j := by omega
        by_cases hjk : j = k
        · have t1 : ((j : Int) == (k : Int)) = true := by simp [hjk]
          rw [if_pos hjk] at hpa
          have hpl : pa.length = (frB q0).length + 2 := by rw [hpa]; simp
          by_cases hjl : j = l
          · have t2 : ((j : Int) == (l : Int)) = true := by simp [hjl]
            rw [if_pos hjl] at hpb
            have hpl2 : pb.length = (frB q1).length + 2 := by rw [hpb]; simp
            have z1 : ¬ 9223372036854775807 < (bs u).size + (bs (frB q0)).size := by simp only [bs_size]; omega
            have z2 : ¬ 9223372036854775807 < (bs u).size + (bs (frB q0)).size + 2 := by simp only [bs_size]; omega
            have z3 : ¬ 9223372036854775807 < (bs u).size + (bs (frB q0)).size + 2 + (bs (frB q1)).size := by simp only [bs_size]; omega
            have z4 : ¬ 9223372036854775807 < (bs u).size + (bs (frB q0)).size + 2 + (bs (frB q1)).size + 2 := by simp only [bs_size]; omega
            have z5 : ¬ 9223372036854775807 < (bs u).size + (bs (frB q0)).size + 2 + (bs (frB q1)).size + 2 + 2 := by simp only [bs_size]; omega
            have z6 : ¬ 9223372036854775807 < (bs u).size + (bs (frB q0)).size + 2 + (bs (frB q1)).size + 2 + 2 + (bs nm).size := by simp only [bs_size]; omega
            have z7 : ¬ 9223372036854775807 < (bs u).size + (bs (frB q0)).size + 2 + (bs (frB q1)).size + 2 + 2 + (bs nm).size + 2 := by simp only [bs_size]; omega
            have z8 : ¬ 9223372036854775807 < (bs u).size + (bs (frB q0)).size + 2 + (bs (frB q1)).size + 2 + 2 + (bs nm).size + 2 + (bs vl).size := by simp only [bs_size]; omega
            have z9 : ¬ 9223372036854775807 < (bs u).size + (bs (frB q0)).size + 2 + (bs (frB q1)).size + 2 + 2 + (bs nm).size + 2 + (bs vl).size + 2 := by simp only [bs_size]; omega
            clear hjk hjl
            go_wp2_with fail
            go_quiet (fail)
            go_wp2_with fail
            refine ⟨⟨j + 1, _, by go_num, ?_, by omega, HLr.out.drewN nq, ⟨HZr.out.out⟩, HHr.out.drewN nq, HN⟩, by simp [intOf]; omega⟩
            congr 1
            apply ByteArray.ext
            simp [hpa, hpb, bs, ByteArray.data_append]
          · have t2 : ((j : Int) == (l : Int)) = false := by simp; omega
            rw [if_neg hjl] at hpb
            have hpl2 : pb.length = 0 := by rw [hpb]; rfl
            have z1 : ¬ 9223372036854775807 < (bs u).size + (bs (frB q0)).size := by simp only [bs_size]; omega
            have z2 : ¬ 9223372036854775807 < (bs u).size + (bs (frB q0)).size + 2 := by simp only [bs_size]; omega
            have z3 : ¬ 9223372036854775807 < (bs u).size + (bs (frB q0)).size + 2 + 2 := by simp only [bs_size]; omega
            have z4 : ¬ 9223372036854775807 < (bs u).size + (bs (frB q0)).size + 2 + 2 + (bs nm).size := by simp only [bs_size]; omega
            have z5 : ¬ 9223372036854775807 < (bs u).size + (bs (frB q0)).size + 2 + 2 + (bs nm).size + 2 := by simp only [bs_size]; omega
            have z6 : ¬ 9223372036854775807 < (bs u).size + (bs (frB q0)).size + 2 + 2 + (bs nm).size + 2 + (bs vl).size := by simp only [bs_size]; omega
            have z7 : ¬ 9223372036854775807 < (bs u).size + (bs (frB q0)).size + 2 + 2 + (bs nm).size + 2 + (bs vl).size + 2 := by simp only [bs_size]; omega
            clear hjk hjl
            go_wp2_with fail
            go_quiet (fail)
            go_wp2_with fail
            refine ⟨⟨j + 1, _, by go_num, ?_, by omega, HLr.out.drewN nq, ⟨HZr.out.out⟩, HHr.out.drewN nq, HN⟩, by simp [intOf]; omega⟩
            congr 1
            apply ByteArray.ext
            simp [hpa, hpb, bs, ByteArray.data_append]
        · have t1 : ((j : Int) == (k : Int)) = false := by simp; omega
          rw [if_neg hjk] at hpa
          have hpl : pa.length = 0 := by rw [hpa]; rfl
          by_cases hjl : j = l
          · have t2 : ((j : Int) == (l : Int)) = true := by simp [hjl]
            rw [if_pos hjl] at hpb
            have hpl2 : pb.length = (frB q1).length + 2 := by rw [hpb]; simp
            have z1 : ¬ 9223372036854775807 < (bs u).size + (bs (frB q1)).size := by simp only [bs_size]; omega
            have z2 : ¬ 9223372036854775807 < (bs u).size + (bs (frB q1)).size + 2 := by simp only [bs_size]; omega
            have z3 : ¬ 9223372036854775807 < (bs u).size + (bs (frB q1)).size + 2 + 2 := by simp only [bs_size]; omega
            have z4 : ¬ 9223372036854775807 < (bs u).size + (bs (frB q1)).size + 2 + 2 + (bs nm).size := by simp only [bs_size]; omega
            have z5 : ¬ 9223372036854775807 < (bs u).size + (bs (frB q1)).size + 2 + 2 + (bs nm).size + 2 := by simp only [bs_size]; omega
            have z6 : ¬ 9223372036854775807 < (bs u).size + (bs (frB q1)).size + 2 + 2 + (bs nm).size + 2 + (bs vl).size := by simp only [bs_size]; omega
            have z7 : ¬ 9223372036854775807 < (bs u).size + (bs (frB q1)).size + 2 + 2 + (bs nm).size + 2 + (bs vl).size + 2 := by simp only [bs_size]; omega
            clear hjk hjl
            go_wp2_with fail
            go_quiet (fail)
            go_wp2_with fail
            refine ⟨⟨j + 1, _, by go_num, ?_, by omega, HLr.out.drewN nq, ⟨HZr.out.out⟩, HHr.out.drewN nq, HN⟩, by simp [intOf]; omega⟩
            congr 1
            apply ByteArray.ext
            simp [hpa, hpb, bs, ByteArray.data_append]
          · have t2 : ((j : Int) == (l : Int)) = false := by simp; omega
            rw [if_neg hjl] at hpb
            have hpl2 : pb.length = 0 := by rw [hpb]; rfl
            have z1 : ¬ 9223372036854775807 < (bs u).size + 2 := by simp only [bs_size]; omega
            have z2 : ¬ 9223372036854775807 < (bs u).size + 2 + (bs nm).size := by simp only [bs_size]; omega
            have z3 : ¬ 9223372036854775807 < (bs u).size + 2 + (bs nm).size + 2 := by simp only [bs_size]; omega
            have z4 : ¬ 9223372036854775807 < (bs u).size + 2 + (bs nm).size + 2 + (bs vl).size := by simp only [bs_size]; omega
            have z5 : ¬ 9223372036854775807 < (bs u).size + 2 + (bs nm).size + 2 + (bs vl).size + 2 := by simp only [bs_size]; omega
            clear hjk hjl
            go_wp2_with fail
            go_quiet (fail)
            go_wp2_with fail
            refine ⟨⟨j + 1, _, by go_num, ?_, by omega, HLr.out.drewN nq, ⟨HZr.out.out⟩, HHr.out.drewN nq, HN⟩, by simp [intOf]; omega⟩
            congr 1
            apply ByteArray.ext
            simp [hpa, hpb, bs, ByteArray.data_append]
      · have d2 : decide ((j : Int) < (m.hs.length : Int)) = false := by simp; omega
        have hje : j = m.hs.length := by omega
        have hl3 : blF (frB q0) (frB q1) k l j (m.hs.drop j) = atI j k (frB q0) ++ atI j l (frB q1) := by rw [hje]; exact bl_last _ _ _ _ _
        rw [hl3, wl_app, hwa, hwb] at hE
        have hsz := congrArg List.length hE
        simp only [List.length_append] at hsz
        have hNew : startB ++ wLines (blF (frB q0) (frB q1) k l 0 m.hs) = (u ++ (pa ++ pb)) ++ wLines (if j + 1 ≤ m.hs.length then blF (frB q0) (frB q1) k l (j + 1) (m.hs.drop (j + 1)) else []) := by
          rw [hE, if_neg (by omega)]
          simp [wLines]
        have HN := Lib.hid hNew
        have HLr := Lib.hid hLr
        have HZr := Lib.hid hZr
        have HHr := Lib.hid hHr
        have hF6 : u.length + (pa.length + pb.length) ≤ 7000 := by
          simp only [List.length_append] at hFin
          omega
        clear hNew hE hwa hwb hLr hHr HE hje hl3 hsz hFin
        have hmeas : m.hs.length + 1 - (j + 1) < m.hs.length + 1 - j := by omega
        by_cases hjk : j = k
        · have t1 : ((j : Int) == (k : Int)) = true := by simp [hjk]
          rw [if_pos hjk] at hpa
          have hpl : pa.length = (frB q0).length + 2 := by rw [hpa]; simp
          by_cases hjl : j = l
          · have t2 : ((j : Int) == (l : Int)) = true := by simp [hjl]
            rw [if_pos hjl] at hpb
            have hpl2 : pb.length = (frB q1).length + 2 := by rw [hpb]; simp
            have z1 : ¬ 9223372036854775807 < (bs u).size + (bs (frB q0)).size := by simp only [bs_size]; omega
            have z2 : ¬ 9223372036854775807 < (bs u).size + (bs (frB q0)).size + 2 := by simp only [bs_size]; omega
            have z3 : ¬ 9223372036854775807 < (bs u).size + (bs (frB q0)).size + 2 + (bs (frB q1)).size := by simp only [bs_size]; omega
            have z4 : ¬ 9223372036854775807 < (bs u).size + (bs (frB q0)).size + 2 + (bs (frB q1)).size + 2 := by simp only [bs_size]; omega
            clear hjk hjl
            go_wp2_with fail
            refine ⟨⟨j + 1, _, by go_num, ?_, by omega, HLr.out, HZr.out, HHr.out, HN⟩, by simp [intOf]; omega⟩
            congr 1
            apply ByteArray.ext
            simp [hpa, hpb, bs, ByteArray.data_append]
          · have t2 : ((j : Int) == (l : Int)) = false := by simp; omega
            rw [if_neg hjl] at hpb
            have hpl2 : pb.length = 0 := by rw [hpb]; rfl
            have z1 : ¬ 9223372036854775807 < (bs u).size + (bs (frB q0)).size := by simp only [bs_size]; omega
            have z2 : ¬ 9223372036854775807 < (bs u).size + (bs (frB q0)).size + 2 := by simp only [bs_size]; omega
            clear hjk hjl
            go_wp2_with fail
            refine ⟨⟨j + 1, _, by go_num, ?_, by omega, HLr.out, HZr.out, HHr.out, HN⟩, by simp [intOf]; omega⟩
            congr 1
            apply ByteArray.ext
            simp [hpa, hpb, bs, ByteArray.data_append]
        · have t1 : ((j : Int) == (k : Int)) = false := by simp; omega
          rw [if_neg hjk] at hpa
          have hpl : pa.length = 0 := by rw [hpa]; rfl
          by_cases hjl : j = l
          · have t2 : ((j : Int) == (l : Int)) = true := by simp [hjl]
            rw [if_pos hjl] at hpb
            have hpl2 : pb.length = (frB q1).length + 2 := by rw [hpb]; simp
            have z1 : ¬ 9223372036854775807 < (bs u).size + (bs (frB q1)).size := by simp only [bs_size]; omega
            have z2 : ¬ 9223372036854775807 < (bs u).size + (bs (frB q1)).size + 2 := by simp only [bs_size]; omega
            clear hjk hjl
            go_wp2_with fail
            refine ⟨⟨j + 1, _, by go_num, ?_, by omega, HLr.out, HZr.out, HHr.out, HN⟩, by simp [intOf]; omega⟩
            congr 1
            apply ByteArray.ext
            simp [hpa, hpb, bs, ByteArray.data_append]
          · have t2 : ((j : Int) == (l : Int)) = false := by simp; omega
            rw [if_neg hjl] at hpb
            have hpl2 : pb.length = 0 := by rw [hpb]; rfl
            clear hjk hjl
            go_wp2_with fail
            refine ⟨⟨j + 1, _, by go_num, ?_, by omega, HLr.out, HZr.out, HHr.out, HN⟩, by simp [intOf]; omega⟩
            congr 1
            apply ByteArray.ext
            simp [hpa, hpb, bs, ByteArray.data_append]
    · have d1 : decide ((j : Int) ≤ (m.hs.length : Int)) = false := by simp; omega
      have hE := HE.out
      rw [if_neg hle, wl_nil, List.append_nil] at hE
      rw [hE] at hFin
      have z1 : ¬ 9223372036854775807 < (bs u).size + 2 := by simp only [bs_size]; omega
      have z2 : ¬ 9223372036854775807 < (bs u).size + 7 := by simp only [bs_size]; omega
      have law1 : wrongB (u ++ [13, 10]) 50 = true := by
        have := frames_law q0 q1 k l m.hs HG.out h13 hk2 hl2 [] (by simp)
        rw [hE] at this
        unfold wrongB
        rw [this]; rfl
      have law2 : wrongB (u ++ [13, 10, 48, 13, 10, 13, 10]) 50 = true := by
        have := frames_law q0 q1 k l m.hs HG.out h13 hk2 hl2 [48, 13, 10, 13, 10] (by decide)
        rw [hE] at this
        unfold wrongB
        rw [this]; rfl
      obtain ⟨W1, cp1, hcv1, hC1, hL1⟩ := conv_cv wr (bs u ++ ⟨#[13, 10]⟩)
      have e1 : (bs u ++ ⟨#[13, 10]⟩).data.toList = u ++ [13, 10] := by simp [bs, ByteArray.data_append]
      rw [e1] at hC1
      have s1 : (bs u ++ ⟨#[13, 10]⟩).size = (u ++ [13, 10]).length := by rw [← e1, Array.length_toList]; rfl
      rw [s1] at hcv1
      have hg1 : Glob wr := hg.low hLr hg.lt
      have hK1 := Lib.hid (wrong_calls (some ⟨wr.heap.size, 0, none⟩) (u ++ [13, 10]) cp1 50 W1 hC1.bytes hC1.cap (fun ad e => by cases e; exact hC1.lt) (hg1.low hL1 hg1.lt) (by decide))
      rw [law1] at hK1
      generalize hn1 : (u ++ [(13 : UInt8), 10]).length = n1 at hcv1 hK1
      clear hn1
      have HK2 := Lib.hid (fun (w2 : World) (hl2 : Low W1.heap.size W1 w2) => conv_cv w2 (bs u ++ ⟨#[13, 10, 48, 13, 10, 13, 10]⟩))
      have HLr := Lib.hid hLr
      have HLL := Lib.hid (hLr.trans (hL1.mono hLr.size))
      have HGG := Lib.hid (hg1.low hL1 hg1.lt)
      clear hE HE hFin hLr hL1 hC1 hg1 s1 e1 law1 hHr
      go_wp2_with fail
      refine hK1.out.mono ?_
      rintro e w2 ⟨rfl, hm2⟩
      obtain ⟨W3, cp2, hcv2, hC2, hL2⟩ := HK2.out w2 hm2
      have e2 : (bs u ++ ⟨#[13, 10, 48, 13, 10, 13, 10]⟩).data.toList = u ++ [13, 10, 48, 13, 10, 13, 10] := by simp [bs, ByteArray.data_append]
      rw [e2] at hC2
      have s2 : (bs u ++ ⟨#[13, 10, 48, 13, 10, 13, 10]⟩).size = (u ++ [13, 10, 48, 13, 10, 13, 10]).length := by rw [← e2, Array.length_toList]; rfl
      rw [s2] at hcv2
      have hg2 : Glob W3 := (HGG.out.low hm2 HGG.out.lt).low hL2 (HGG.out.low hm2 HGG.out.lt).lt
      have hK3 := Lib.hid (wrong_calls (some ⟨w2.heap.size, 0, none⟩) (u ++ [13, 10, 48, 13, 10, 13, 10]) cp2 50 W3 hC2.bytes hC2.cap (fun ad e => by cases e; exact hC2.lt) hg2 (by decide))
      rw [law2] at hK3
      generalize hn2 : (u ++ [(13 : UInt8), 10, 48, 13, 10, 13, 10]).length = n2 at hcv2 hK3
      clear hn2
      have hL12 := HLL.out.trans (hm2.mono HLL.out.size)
      have HL3 := Lib.hid (hL12.trans (hL2.mono hL12.size))
      have HG2 := Lib.hid hg2
      clear hg2 hL12 hL2 hC2 e2 s2 hm2
      go_wp2_with fail
      refine hK3.out.mono ?_
      rintro e w4 ⟨rfl, hm4⟩
      go_wp2_with fail
      refine (works_calls w4 (HG2.out.low hm4 HG2.out.lt)).mono ?_
      rintro e w5 ⟨rfl, hm5⟩
      go_wp2_with fail
      go_ret
      have h4 := HL3.out.trans (hm4.mono HL3.out.size)
      exact ⟨rfl, h4.trans (hm5.mono h4.size)⟩
end Go.Proofs.YtcognpibphpadaaGreatDoor
