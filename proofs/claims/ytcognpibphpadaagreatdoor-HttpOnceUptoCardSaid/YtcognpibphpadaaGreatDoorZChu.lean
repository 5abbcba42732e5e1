/- http.Chunked. -/
import Derived.Test.YtcognpibphpadaaGreatDoorZBod
set_option linter.unusedVariables false
set_option linter.unusedSimpArgs false
namespace Go.Proofs.YtcognpibphpadaaGreatDoor
open Go.RowKit Go.Shelf
attribute [local go_sem] Oper.semAt_some

/-- What Chunked answers. -/
def ChTold (cM : B) (b : Nat) (e : Ending) (w' : World) : Prop :=
  if 8192 < cM.length then e = .returned (.tuple #[.slice none 0 0, .int .i64 5]) else ∃ v, e = .returned (.tuple #[v, .int .i64 0]) ∧ BOwn w' b v cM
set_option maxHeartbeats 8000000 in
set_option maxRecDepth 100000 in
theorem chunked_calls (m : Msg) (size : Nat) (hA bA : Option Addr) (hc bc : Nat) (w : World) (hs : 1 ≤ size) (hs2 : size ≤ 4095) (hg : Glob w) (ht : Tab10 w) (hd : TabD w) (h0 : checkM m = 0)
    (hh : Hds w hA m.hs) (hHA : ∀ ad, hA = some ad → ad.block < w.heap.size) (hk : Bts w bA m.body) (hKA : ∀ ad, bA = some ad → ad.block < w.heap.size) (hbc : m.body.length ≤ bc) :
    Calls Tryz.prog 32 #[.agg #[.string (bs m.me), .string (bs m.pa), .int .i64 m.st, .slice hA m.hs.length hc, .slice bA m.body.length bc], .int .i64 (size : Int)] w
      fun e w' => ChTold (chunkedM m size) w.heap.size e w' ∧ Low w.heap.size w w' := by
  have hm := may_of h0
  have hmv : ∀ h ∈ m.hs, h.2.length ≤ 1048576 := fun h hh => by
    have h2 : mayB h.1 h.2 = true := hm.may h hh
    simp only [mayB, Bool.and_eq_true] at h2
    have := (value_facts h2.2).1
    omega
  have hpa : m.pa.length ≤ 1048576 := by
    rcases hm.fine with ⟨_, h, _⟩ | ⟨_, h, _⟩
    · have := (path_facts h).1; omega
    · rw [h]; simp
  have hb := hm.body
  have H30 := Lib.hid (fun (w1 : World) (hl : Low w.heap.size w w1) => check_calls m hA bA hc bc w1 (hh.far hl hHA) (fun ad e => Nat.lt_of_lt_of_le (hHA ad e) hl.size) hmv (by have := hm.n; omega) hpa (by omega))
  rw [h0] at H30
  have H65 := Lib.hid (fun (w1 : World) (hl : Low w.heap.size w w1) (kA : Option Addr) (kc : Nat) (l : B) (hk : Bts w1 kA l) (hKA : ∀ ad, kA = some ad → ad.block < w1.heap.size) (hl2 : l.length ≤ 500000) => written_calls m codLine l hA bA kA hc bc kc w1 (hg.low hl hg.lt) (ht.low hl (Nat.lt_of_lt_of_le (by decide) hg.lt)) hm (hh.far hl hHA) (fun ad e => Nat.lt_of_lt_of_le (hHA ad e) hl.size) hk hKA (by decide) hl2)
  have hcm : chunkedM m size = writtenM m codLine (chF size (m.body.length + 1) m.body) := rfl
  have hcl := chF_len size hs (m.body.length + 1) m.body hb
  generalize chunkedM m size = cM at hcm ⊢
  obtain ⟨me, pa, st, hs0, body⟩ := m
  dsimp only at *
  have d1 : decide ((size : Int) < 1) = false := by simp; omega
  have d2 : decide ((4095 : Int) < (size : Int)) = false := by simp; omega
  have hl0 := (Low.refl w.heap.size w).alloc (Nat.le_refl _) (.cells #[.string (bs me), .string (bs pa), .int .i64 st, .slice hA hs0.length hc, .slice bA body.length bc] 29)
  have hr0 : ZRow (w.alloc (.cells #[.string (bs me), .string (bs pa), .int .i64 st, .slice hA hs0.length hc, .slice bA body.length bc] 29)) w.heap.size (bs me) (bs pa) st (.slice hA hs0.length hc) (.slice bA body.length bc) := ⟨heap_alloc_new w _⟩
  have HL0 := Lib.hid hl0
  have HR0 := Lib.hid hr0
  have Hcl := Lib.hid hcl
  have Hcm := Lib.hid hcm
  have Hg := Lib.hid hg
  have Hd := Lib.hid hd
  have Hk := Lib.hid hk
  have HKA := Lib.hid hKA
  have Hb := Lib.hid hb
  have Hhs := Lib.hid hs
  have Hhs2 := Lib.hid hs2
  have Hbc := Lib.hid hbc
  clear hl0 hcl hcm hg ht hd h0 hh hHA hk hKA hm hmv hpa hb
  have hmf : ∀ (fn : Fn) (first cap : Array Value) (w : World), (Instr.makeFunc fn first cap).run Tryz.prog w = .ok (.func fn first cap) w := fun _ _ _ _ => rfl
  obtain ⟨q0, q1, q2, q3, q4⟩ := hr0.five
  clear hr0
  refine (callsIn_wide (n := 4)).1 ?_
  refine callsIn_of_wp_marks Tryz.func32 rfl trivial ?_ rfl
  simp only [Tryz.ntmps32, List.size_toArray, List.length_cons, List.length_nil, Nat.reduceAdd, Nat.reduceSub, Array.replicate_succ, Array.replicate_zero, List.push_toArray, List.append_toArray, List.nil_append, List.cons_append]
  gi_wp2_with fail
  refine ⟨trivial, ?_⟩
  refine (callsIn_wide.2 (H30.out _ HL0.out)).mono ?_
  rintro e w1 ⟨rfl, hl1⟩
  have HL1 := Lib.hid (HL0.out.trans (hl1.mono HL0.out.size))
  have HR1 := Lib.hid (HR0.out.low hl1 HR0.out.lt0)
  clear hl1 q0 q1 q2 q3 q4
  have HR2 := Lib.hid (HR1.out.low ((Low.refl w1.heap.size w1).alloc (Nat.le_refl _) (.cells #[.slice none 0 0] 23)) HR1.out.lt0)
  have q4 := HR2.out.five.2.2.2.2
  gi_wp2_with fail
  refine ⟨trivial, ?_⟩
  refine (callsIn_wide.2 (chunks_calls _ _ _ _ _)).mono ?_
  rintro e w2 ⟨rfl, rfl⟩
  gi_wp2_with fail
  obtain ⟨Ba, hBa⟩ : ∃ Ba, w1.heap.size = Ba := ⟨_, rfl⟩
  obtain ⟨W0, hW0⟩ : ∃ W0, (((w1.alloc (.cells #[.slice none 0 0] 23)).alloc (.cells #[.slice bA body.length bc] 23)).alloc (.cells #[.int .i64 (size : Int)] 3)) = W0 := ⟨_, rfl⟩
  have bAll : Boxed W0 Ba 23 (.slice none 0 0) := by rw [← hW0, ← hBa]; exact ((Boxed.new w1 23 _).alloc _).alloc _
  have bB : Boxed W0 (Ba + 1) 23 (.slice bA body.length bc) := by rw [← hW0, ← hBa]; have h := (Boxed.new (w1.alloc (.cells #[.slice none 0 0] 23)) 23 (.slice bA body.length bc)).alloc (.cells #[.int .i64 (size : Int)] 3); simpa using h
  have bS : Boxed W0 (Ba + 1 + 1) 3 (.int .i64 (size : Int)) := by rw [← hW0, ← hBa]; have h := Boxed.new ((w1.alloc (.cells #[.slice none 0 0] 23)).alloc (.cells #[.slice bA body.length bc] 23)) 3 (.int .i64 (size : Int)); simpa using h
  have hB0 : Low Ba w1 W0 := by rw [← hW0, ← hBa]; exact (((Low.refl _ w1).alloc (Nat.le_refl _) _).alloc (by simp) _).alloc (by simp; omega) _
  have hsz : W0.heap.size = Ba + 3 := by rw [← hW0, ← hBa]; simp
  rw [hW0, hBa]
  have hLw := HL1.out
  have hRl := HR1.out.lt0
  have hwl := hLw.size
  rw [hBa] at hRl hwl
  have hbts : Bts W0 bA body := ((Hk.out.far hLw HKA.out).far hB0 (fun ad e => by have := HKA.out ad e; omega))
  clear hW0
  refine range_box (n := 4) (encs := encP) (by omega) (gf := 127) (lb := #[.pointer (some ⟨Ba + 1, 0, none⟩), .pointer (some ⟨Ba + 1 + 1, 0, none⟩)]) rfl (enters_of Tryz.func127 (by kernel_rfl) rfl) (S := fun k => k = Ba + 1 ∨ k = Ba + 1 + 1) (bB := Ba + 1) (G := GoodQ W0 Ba) (all := pcs size (body.length + 1) bA bc body)
    (chunks_in 3 (by omega) (Ba + 1) (Ba + 1 + 1) (by omega) bA bc size body W0 Hhs.out (by have := Hhs2.out; omega) Hb.out Hbc.out Ba bB bS hbts (fun ad e => by have := HKA.out ad e; omega)) (by omega) (fun k hk => by rcases hk with rfl | rfl <;> omega) (fun _ => rfl)
    (fun pre W => (∃ v, Boxed W Ba 23 v ∧ BOwn W W0.heap.size v (pre.flatMap fun x => chunkB x.2)) ∧ Low Ba w1 W) ?hI ⟨⟨_, bAll, BOwn.nil _ _⟩, hB0⟩
    (fun x => { tmps := #[.agg #[.string (bs me), .string (bs pa), .int .i64 st, .slice hA hs0.length hc, .slice bA body.length bc], .int .i64 (size : Int), .pointer (some ⟨w.heap.size, 0, none⟩), undef, .slice none 0 0, .int .i64 0, .pointer (some ⟨Ba, 0, none⟩), .slice x.1.1 x.2.length x.1.2, undef, undef, .agg #[.string (bs me), .string (bs pa), .int .i64 st, .slice hA hs0.length hc, .slice bA body.length bc], .int .i64 0, .bool false, .bool false, .int .i64 (size : Int), .bool false, .bool false, .bool false, .int .i64 (size : Int), .bool false, .bool false, .pointer (some ⟨w.heap.size, 4, none⟩), .slice bA body.length bc, .int .i64 (size : Int), .func (.func 127) #[] #[.pointer (some ⟨Ba + 1, 0, none⟩), .pointer (some ⟨Ba + 1 + 1, 0, none⟩)], .slice x.1.1 x.2.length x.1.2, undef, undef, undef, undef, undef, undef, undef, undef, undef, undef, undef, undef, undef, undef, undef, undef, undef, undef, undef, undef, undef, undef], defers := [] })
    ?assign ?body ?done
  case hI =>
    rintro pre A B row ⟨⟨v, h1, h2⟩, h3⟩ hg2 hr
    have hlt := h1.lt
    refine ⟨⟨v, h1.kept hg2 (fun e => by rcases hr Ba e.symm with h | ⟨h, _⟩ <;> omega), h2.same fun k hk => hg2.block k (h2.out.lt k hk).2 (fun e => ?_)⟩, ⟨h3.out.grown hg2 (by omega) (fun k e => by rcases hr k e with h | ⟨h, _⟩ <;> omega)⟩⟩
    have hk2 := (h2.out.lt k hk).1
    rcases hr k e.symm with h | ⟨_, o, ho, hcl⟩
    · omega
    · obtain ⟨cs, t, p, hcs⟩ := h2.cells k hk
      rw [hcs] at ho
      cases ho
      cases hcl
  case assign =>
    intro lp x W K hK
    dsimp only [encP]
    gi_wp2
    exact hK
  case body =>
    rintro lp pre x W ⟨⟨v, h1, h2⟩, h3⟩ hz ⟨hG, hGl⟩
    obtain ⟨⟨A, c⟩, xb⟩ := x
    obtain ⟨g1, g2, g3, g4⟩ := hG ((A, c), xb) (by simp)
    dsimp only at g1 g2 g3 g4 ⊢
    have hBtW : ∀ W' : World, Low Ba w1 W' → Bts W' A xb := fun W' h => ⟨fun j hj => by
      obtain ⟨ad, e, hc⟩ := g1.out j hj
      have hb := g2 ad e
      exact ⟨ad, e, (h.cell (p := ad.add j) (by rw [add_block]; exact hb)).trans ((hB0.cell (p := ad.add j) (by rw [add_block]; exact hb)).symm.trans hc)⟩⟩
    have hlen1 : (pre.flatMap fun x => chunkB x.2).length + (chunkB xb).length ≤ 20000 := by
      have := hGl
      rw [List.flatMap_append, List.length_append] at this
      simpa using this
    have hlen2 : (pre.flatMap fun x => chunkB x.2).length ≤ 20000 := by omega
    have hfl : (pre ++ [((A, c), xb)]).flatMap (fun x => chunkB x.2) = (pre.flatMap fun x => chunkB x.2) ++ chunkB xb := by rw [List.flatMap_append]; simp
    have HFl := Lib.hid hfl
    clear hfl hG hGl
    generalize (pre.flatMap fun x => chunkB x.2) = L at *
    obtain ⟨A0, c0, rfl, hc0, -, -⟩ := h2.slice
    have cA : W.drew.cell? ⟨Ba, 0, none⟩ = some (.slice A0 L.length c0) := h1.cell
    have HBx := Lib.hid h1
    have HO := Lib.hid h2
    have HT := Lib.hid (Hd.out.low (hLw.trans (h3.mono hwl)) Hd.out.lt)
    have HL3 := Lib.hid h3
    have HBt := Lib.hid hBtW
    clear h1 h2 h3 hBtW g1 g2 bAll bB bS hbts
    have hzd : W0.heap.size ≤ W.drew.heap.size := hz
    have HOd := Lib.hid (HO.out.low (Low.refl _ W).drew (Nat.le_refl _))
    have HTd := Lib.hid (HT.out.low (Low.refl W.heap.size W).drew HT.out.lt)
    have HGd := Lib.hid (Hg.out.low (hLw.trans (HL3.out.mono hwl)).drew Hg.out.lt)
    have HLd := Lib.hid HL3.out.drew
    have HX := Lib.hid (appendInt_calls xb.length (by omega) (.slice A0 L.length c0) L W0.heap.size W.drew HOd.out (by omega) hzd HTd.out)
    have hw2 : w.heap.size ≤ Ba := hwl
    obtain ⟨M, hM⟩ : ∃ M, M = L ++ hexB xb.length := ⟨_, rfl⟩
    obtain ⟨N, hN⟩ : ∃ N, N = M ++ [13, 10] := ⟨_, rfl⟩
    rw [← hM] at HX
    have HMe := Lib.hid hM
    have HNe := Lib.hid hN
    have hLwk := hLw
    clear hLw hB0
    gi_wp2_with fail
    have hBa1 : Ba < W0.heap.size := by omega
    have HBd := Lib.hid (show Boxed W.drew Ba 23 (.slice A0 L.length c0) from HBx.out)
    have HLw := Lib.hid hLwk
    have hlx : M.length + 2 + xb.length + 2 ≤ 20000 := by
      have := hlen1
      unfold chunkB at this
      rw [hM]
      simp only [List.length_append, List.length_cons, List.length_nil] at this ⊢
      omega
    have hnx : N.length = M.length + 2 := by rw [hN]; simp
    have HNx := Lib.hid hnx
    clear hM hN hnx
    refine wpIn_mono (Q := fun e a' W' => e = .normal ∧ ∃ (t26 t27 t28 t29 t30 t31 : Value) (A' : Option Addr) (c' : Nat), a' = { tmps := #[.agg #[.string (bs me), .string (bs pa), .int .i64 st, .slice hA hs0.length hc, .slice bA body.length bc], .int .i64 (size : Int), .pointer (some ⟨w.heap.size, 0, none⟩), undef, .slice none 0 0, .int .i64 0, .pointer (some ⟨Ba, 0, none⟩), .slice A xb.length c, undef, undef, .agg #[.string (bs me), .string (bs pa), .int .i64 st, .slice hA hs0.length hc, .slice bA body.length bc], .int .i64 0, .bool false, .bool false, .int .i64 (size : Int), .bool false, .bool false, .bool false, .int .i64 (size : Int), .bool false, .bool false, .pointer (some ⟨w.heap.size, 4, none⟩), .slice bA body.length bc, .int .i64 (size : Int), .func (.func 127) #[] #[.pointer (some ⟨Ba + 1, 0, none⟩), .pointer (some ⟨Ba + 1 + 1, 0, none⟩)], .slice A xb.length c, t26, t27, t28, t29, t30, t31, undef, undef, undef, undef, undef, undef, undef, undef, undef, undef, undef, undef, undef, undef, undef, undef], defers := [] } ∧
      Hid (Boxed W' Ba 23 (.slice A' N.length c')) ∧ Hid (BOwn W' W0.heap.size (.slice A' N.length c') N) ∧ Hid (KeepsOthers W W') ∧ Hid (∀ k, k < W0.heap.size → k ≠ Ba → W'.heap[k]? = W.heap[k]?) ∧ Hid (Low Ba w1 W')) ?r6 ?next
    case r6 =>
      refine wpIn_region_any (by kernel_rfl) ?_
      change wpAnyIn _ _ _ _ _ _ _ _ _ (World.drew _)
      refine wpAnyIn_ready (rs := [0, 1, 4]) (by kernel_rfl) (by simp) ?_
      refine AllReadyIn.cons rfl (fun K hK => ?_) ?_
      · (go_simp; refine hK _ _ ?_; clear hK K)
        refine wpAnyIn_ready (rs := [1, 4]) (by kernel_rfl) (by simp) ?_
        refine AllReadyIn.cons rfl (fun K hK => ?_) ?_
        · (go_simp; refine hK _ _ ?_; clear hK K)
          refine wpAnyIn_ready (rs := [2, 4]) (by kernel_rfl) (by simp) ?_
          refine AllReadyIn.cons rfl (fun K hK => ?_) ?_
          · (go_simp; refine hK _ _ ?_; clear hK K)
            refine wpAnyIn_ready (rs := [3, 4]) (by kernel_rfl) (by simp) ?_
            refine AllReadyIn.cons rfl (fun K hK => ?_) ?_
            · (refine stepIn_call3 77 (.tmp 26) (.tmp 28) (.const (.int .i64 16)) _ (.slice A0 L.length c0) (.int .i64 (xb.length : Int)) (.int .i64 16) rfl rfl rfl rfl rfl (enters_of Tryz.func77 (by kernel_rfl) rfl) trivial (fun _ => by omega) (CallsIn.inRound lp (callsIn_wide.2 HX.out)) ?_; rintro e w3 ⟨v1, rfl, ho1, hg1⟩; obtain ⟨A1, c1, rfl, hc1, -, -⟩ := ho1.slice; refine ⟨_, rfl, hK _ _ ?_⟩; clear hK K; have hz3 : W0.heap.size ≤ w3.heap.size := Nat.le_trans hzd hg1.size; have HL3w := Lib.hid (low_of_grown HLd.out (HOd.out.weak0 (Nat.le_of_lt hBa1)) (by omega) hg1); have HE1 := Lib.hid (end_bts (Hg.out.low (HLw.out.trans (HL3w.out.mono hw2)) Hg.out.lt)); have HB3 := Lib.hid (boxed_grown HBd.out HOd.out hBa1 hg1); have HK3 := Lib.hid ((KeepsOthers.drew W).trans (keep_grown HOd.out hg1)); have HN3 := Lib.hid (below_grown HOd.out hzd hg1); have HO1 := Lib.hid ho1; clear ho1 hg1)
              refine wpAnyIn_ready (rs := [4]) (by kernel_rfl) (by simp) ?_
              refine AllReadyIn.cons rfl (fun K hK => ?_) AllReadyIn.nil
              (go_simp; refine hK _ _ ?_; clear hK K)
              refine wpAnyIn_ready (rs := [5]) (by kernel_rfl) (by simp) ?_
              refine AllReadyIn.cons rfl (fun K hK => ?_) AllReadyIn.nil
              (refine stepIn_any W0.heap.size (.slice A1 M.length c1) M [13, 10] (some ⟨0, 0, none⟩) 2 2 (.tmp 29) (.tmp 30) HO1.out HE1.out (by simp) rfl rfl rfl rfl rfl (by simp; omega) hz3 ?_; intro v2 w4 ho2 hg2; rw [← HNe.out] at ho2; obtain ⟨A2, c2, rfl, hc2, -, -⟩ := ho2.slice; refine hK _ _ ?_; clear hK K; have HB4 := Lib.hid (boxed_grown HB3.out HO1.out hBa1 hg2); have c4 := HB4.out.cell; have f4 := HB4.out.frozen; have HO2 := Lib.hid ho2; have HG2 := Lib.hid hg2; clear ho2 hg2)
              refine wpAnyIn_ready (rs := [6]) (by kernel_rfl) (by simp) ?_
              refine AllReadyIn.cons rfl (fun K hK => ?_) AllReadyIn.nil
              (go_simp; refine hK _ _ ?_; clear hK K)
              (refine wpAnyIn_done (by kernel_rfl) ?_ _; refine ⟨rfl, _, _, _, _, _, _, A2, c2, rfl, Lib.hid (HB4.out.set _), Lib.hid (HO2.out.setG hBa1 _ _), Lib.hid (HK3.out.trans ((keep_grown HO1.out HG2.out).trans (KeepsOthers.setCell _ _ _))), Lib.hid (fun k hk hne => (heap_set_ne0 _ _ _ _ _ hne).trans ((below_grown HO1.out hz3 HG2.out k hk).trans (HN3.out k hk))), Lib.hid ((low_of_grown HL3w.out (HO1.out.weak0 (Nat.le_of_lt hBa1)) (by omega) HG2.out).setCell (Nat.le_refl _) _)⟩)
            refine AllReadyIn.cons rfl (fun K hK => ?_) AllReadyIn.nil
            (go_simp; refine hK _ _ ?_; clear hK K)
            refine wpAnyIn_ready (rs := [3]) (by kernel_rfl) (by simp) ?_
            refine AllReadyIn.cons rfl (fun K hK => ?_) AllReadyIn.nil
            (refine stepIn_call3 77 (.tmp 26) (.tmp 28) (.const (.int .i64 16)) _ (.slice A0 L.length c0) (.int .i64 (xb.length : Int)) (.int .i64 16) rfl rfl rfl rfl rfl (enters_of Tryz.func77 (by kernel_rfl) rfl) trivial (fun _ => by omega) (CallsIn.inRound lp (callsIn_wide.2 HX.out)) ?_; rintro e w3 ⟨v1, rfl, ho1, hg1⟩; obtain ⟨A1, c1, rfl, hc1, -, -⟩ := ho1.slice; refine ⟨_, rfl, hK _ _ ?_⟩; clear hK K; have hz3 : W0.heap.size ≤ w3.heap.size := Nat.le_trans hzd hg1.size; have HL3w := Lib.hid (low_of_grown HLd.out (HOd.out.weak0 (Nat.le_of_lt hBa1)) (by omega) hg1); have HE1 := Lib.hid (end_bts (Hg.out.low (HLw.out.trans (HL3w.out.mono hw2)) Hg.out.lt)); have HB3 := Lib.hid (boxed_grown HBd.out HOd.out hBa1 hg1); have HK3 := Lib.hid ((KeepsOthers.drew W).trans (keep_grown HOd.out hg1)); have HN3 := Lib.hid (below_grown HOd.out hzd hg1); have HO1 := Lib.hid ho1; clear ho1 hg1)
            refine wpAnyIn_ready (rs := [5]) (by kernel_rfl) (by simp) ?_
            refine AllReadyIn.cons rfl (fun K hK => ?_) AllReadyIn.nil
            (refine stepIn_any W0.heap.size (.slice A1 M.length c1) M [13, 10] (some ⟨0, 0, none⟩) 2 2 (.tmp 29) (.tmp 30) HO1.out HE1.out (by simp) rfl rfl rfl rfl rfl (by simp; omega) hz3 ?_; intro v2 w4 ho2 hg2; rw [← HNe.out] at ho2; obtain ⟨A2, c2, rfl, hc2, -, -⟩ := ho2.slice; refine hK _ _ ?_; clear hK K; have HB4 := Lib.hid (boxed_grown HB3.out HO1.out hBa1 hg2); have c4 := HB4.out.cell; have f4 := HB4.out.frozen; have HO2 := Lib.hid ho2; have HG2 := Lib.hid hg2; clear ho2 hg2)
            refine wpAnyIn_ready (rs := [6]) (by kernel_rfl) (by simp) ?_
            refine AllReadyIn.cons rfl (fun K hK => ?_) AllReadyIn.nil
            (go_simp; refine hK _ _ ?_; clear hK K)
            (refine wpAnyIn_done (by kernel_rfl) ?_ _; refine ⟨rfl, _, _, _, _, _, _, A2, c2, rfl, Lib.hid (HB4.out.set _), Lib.hid (HO2.out.setG hBa1 _ _), Lib.hid (HK3.out.trans ((keep_grown HO1.out HG2.out).trans (KeepsOthers.setCell _ _ _))), Lib.hid (fun k hk hne => (heap_set_ne0 _ _ _ _ _ hne).trans ((below_grown HO1.out hz3 HG2.out k hk).trans (HN3.out k hk))), Lib.hid ((low_of_grown HL3w.out (HO1.out.weak0 (Nat.le_of_lt hBa1)) (by omega) HG2.out).setCell (Nat.le_refl _) _)⟩)
          refine AllReadyIn.cons rfl (fun K hK => ?_) AllReadyIn.nil
          (go_simp; refine hK _ _ ?_; clear hK K)
          refine wpAnyIn_ready (rs := [2]) (by kernel_rfl) (by simp) ?_
          refine AllReadyIn.cons rfl (fun K hK => ?_) AllReadyIn.nil
          (go_simp; refine hK _ _ ?_; clear hK K)
          refine wpAnyIn_ready (rs := [3]) (by kernel_rfl) (by simp) ?_
          refine AllReadyIn.cons rfl (fun K hK => ?_) AllReadyIn.nil
          (refine stepIn_call3 77 (.tmp 26) (.tmp 28) (.const (.int .i64 16)) _ (.slice A0 L.length c0) (.int .i64 (xb.length : Int)) (.int .i64 16) rfl rfl rfl rfl rfl (enters_of Tryz.func77 (by kernel_rfl) rfl) trivial (fun _ => by omega) (CallsIn.inRound lp (callsIn_wide.2 HX.out)) ?_; rintro e w3 ⟨v1, rfl, ho1, hg1⟩; obtain ⟨A1, c1, rfl, hc1, -, -⟩ := ho1.slice; refine ⟨_, rfl, hK _ _ ?_⟩; clear hK K; have hz3 : W0.heap.size ≤ w3.heap.size := Nat.le_trans hzd hg1.size; have HL3w := Lib.hid (low_of_grown HLd.out (HOd.out.weak0 (Nat.le_of_lt hBa1)) (by omega) hg1); have HE1 := Lib.hid (end_bts (Hg.out.low (HLw.out.trans (HL3w.out.mono hw2)) Hg.out.lt)); have HB3 := Lib.hid (boxed_grown HBd.out HOd.out hBa1 hg1); have HK3 := Lib.hid ((KeepsOthers.drew W).trans (keep_grown HOd.out hg1)); have HN3 := Lib.hid (below_grown HOd.out hzd hg1); have HO1 := Lib.hid ho1; clear ho1 hg1)
          refine wpAnyIn_ready (rs := [5]) (by kernel_rfl) (by simp) ?_
          refine AllReadyIn.cons rfl (fun K hK => ?_) AllReadyIn.nil
          (refine stepIn_any W0.heap.size (.slice A1 M.length c1) M [13, 10] (some ⟨0, 0, none⟩) 2 2 (.tmp 29) (.tmp 30) HO1.out HE1.out (by simp) rfl rfl rfl rfl rfl (by simp; omega) hz3 ?_; intro v2 w4 ho2 hg2; rw [← HNe.out] at ho2; obtain ⟨A2, c2, rfl, hc2, -, -⟩ := ho2.slice; refine hK _ _ ?_; clear hK K; have HB4 := Lib.hid (boxed_grown HB3.out HO1.out hBa1 hg2); have c4 := HB4.out.cell; have f4 := HB4.out.frozen; have HO2 := Lib.hid ho2; have HG2 := Lib.hid hg2; clear ho2 hg2)
          refine wpAnyIn_ready (rs := [6]) (by kernel_rfl) (by simp) ?_
          refine AllReadyIn.cons rfl (fun K hK => ?_) AllReadyIn.nil
          (go_simp; refine hK _ _ ?_; clear hK K)
          (refine wpAnyIn_done (by kernel_rfl) ?_ _; refine ⟨rfl, _, _, _, _, _, _, A2, c2, rfl, Lib.hid (HB4.out.set _), Lib.hid (HO2.out.setG hBa1 _ _), Lib.hid (HK3.out.trans ((keep_grown HO1.out HG2.out).trans (KeepsOthers.setCell _ _ _))), Lib.hid (fun k hk hne => (heap_set_ne0 _ _ _ _ _ hne).trans ((below_grown HO1.out hz3 HG2.out k hk).trans (HN3.out k hk))), Lib.hid ((low_of_grown HL3w.out (HO1.out.weak0 (Nat.le_of_lt hBa1)) (by omega) HG2.out).setCell (Nat.le_refl _) _)⟩)
        refine AllReadyIn.cons rfl (fun K hK => ?_) AllReadyIn.nil
        (go_simp; refine hK _ _ ?_; clear hK K)
        refine wpAnyIn_ready (rs := [1]) (by kernel_rfl) (by simp) ?_
        refine AllReadyIn.cons rfl (fun K hK => ?_) AllReadyIn.nil
        (go_simp; refine hK _ _ ?_; clear hK K)
        refine wpAnyIn_ready (rs := [2]) (by kernel_rfl) (by simp) ?_
        refine AllReadyIn.cons rfl (fun K hK => ?_) AllReadyIn.nil
        (go_simp; refine hK _ _ ?_; clear hK K)
        refine wpAnyIn_ready (rs := [3]) (by kernel_rfl) (by simp) ?_
        refine AllReadyIn.cons rfl (fun K hK => ?_) AllReadyIn.nil
        (refine stepIn_call3 77 (.tmp 26) (.tmp 28) (.const (.int .i64 16)) _ (.slice A0 L.length c0) (.int .i64 (xb.length : Int)) (.int .i64 16) rfl rfl rfl rfl rfl (enters_of Tryz.func77 (by kernel_rfl) rfl) trivial (fun _ => by omega) (CallsIn.inRound lp (callsIn_wide.2 HX.out)) ?_; rintro e w3 ⟨v1, rfl, ho1, hg1⟩; obtain ⟨A1, c1, rfl, hc1, -, -⟩ := ho1.slice; refine ⟨_, rfl, hK _ _ ?_⟩; clear hK K; have hz3 : W0.heap.size ≤ w3.heap.size := Nat.le_trans hzd hg1.size; have HL3w := Lib.hid (low_of_grown HLd.out (HOd.out.weak0 (Nat.le_of_lt hBa1)) (by omega) hg1); have HE1 := Lib.hid (end_bts (Hg.out.low (HLw.out.trans (HL3w.out.mono hw2)) Hg.out.lt)); have HB3 := Lib.hid (boxed_grown HBd.out HOd.out hBa1 hg1); have HK3 := Lib.hid ((KeepsOthers.drew W).trans (keep_grown HOd.out hg1)); have HN3 := Lib.hid (below_grown HOd.out hzd hg1); have HO1 := Lib.hid ho1; clear ho1 hg1)
        refine wpAnyIn_ready (rs := [5]) (by kernel_rfl) (by simp) ?_
        refine AllReadyIn.cons rfl (fun K hK => ?_) AllReadyIn.nil
        (refine stepIn_any W0.heap.size (.slice A1 M.length c1) M [13, 10] (some ⟨0, 0, none⟩) 2 2 (.tmp 29) (.tmp 30) HO1.out HE1.out (by simp) rfl rfl rfl rfl rfl (by simp; omega) hz3 ?_; intro v2 w4 ho2 hg2; rw [← HNe.out] at ho2; obtain ⟨A2, c2, rfl, hc2, -, -⟩ := ho2.slice; refine hK _ _ ?_; clear hK K; have HB4 := Lib.hid (boxed_grown HB3.out HO1.out hBa1 hg2); have c4 := HB4.out.cell; have f4 := HB4.out.frozen; have HO2 := Lib.hid ho2; have HG2 := Lib.hid hg2; clear ho2 hg2)
        refine wpAnyIn_ready (rs := [6]) (by kernel_rfl) (by simp) ?_
        refine AllReadyIn.cons rfl (fun K hK => ?_) AllReadyIn.nil
        (go_simp; refine hK _ _ ?_; clear hK K)
        (refine wpAnyIn_done (by kernel_rfl) ?_ _; refine ⟨rfl, _, _, _, _, _, _, A2, c2, rfl, Lib.hid (HB4.out.set _), Lib.hid (HO2.out.setG hBa1 _ _), Lib.hid (HK3.out.trans ((keep_grown HO1.out HG2.out).trans (KeepsOthers.setCell _ _ _))), Lib.hid (fun k hk hne => (heap_set_ne0 _ _ _ _ _ hne).trans ((below_grown HO1.out hz3 HG2.out k hk).trans (HN3.out k hk))), Lib.hid ((low_of_grown HL3w.out (HO1.out.weak0 (Nat.le_of_lt hBa1)) (by omega) HG2.out).setCell (Nat.le_refl _) _)⟩)
      refine AllReadyIn.cons rfl (fun K hK => ?_) ?_
      · (go_simp; refine hK _ _ ?_; clear hK K)
        refine wpAnyIn_ready (rs := [0, 2, 4]) (by kernel_rfl) (by simp) ?_
        refine AllReadyIn.cons rfl (fun K hK => ?_) ?_
        · (go_simp; refine hK _ _ ?_; clear hK K)
          refine wpAnyIn_ready (rs := [2, 4]) (by kernel_rfl) (by simp) ?_
          refine AllReadyIn.cons rfl (fun K hK => ?_) ?_
          · (go_simp; refine hK _ _ ?_; clear hK K)
            refine wpAnyIn_ready (rs := [3, 4]) (by kernel_rfl) (by simp) ?_
            refine AllReadyIn.cons rfl (fun K hK => ?_) ?_
            · (refine stepIn_call3 77 (.tmp 26) (.tmp 28) (.const (.int .i64 16)) _ (.slice A0 L.length c0) (.int .i64 (xb.length : Int)) (.int .i64 16) rfl rfl rfl rfl rfl (enters_of Tryz.func77 (by kernel_rfl) rfl) trivial (fun _ => by omega) (CallsIn.inRound lp (callsIn_wide.2 HX.out)) ?_; rintro e w3 ⟨v1, rfl, ho1, hg1⟩; obtain ⟨A1, c1, rfl, hc1, -, -⟩ := ho1.slice; refine ⟨_, rfl, hK _ _ ?_⟩; clear hK K; have hz3 : W0.heap.size ≤ w3.heap.size := Nat.le_trans hzd hg1.size; have HL3w := Lib.hid (low_of_grown HLd.out (HOd.out.weak0 (Nat.le_of_lt hBa1)) (by omega) hg1); have HE1 := Lib.hid (end_bts (Hg.out.low (HLw.out.trans (HL3w.out.mono hw2)) Hg.out.lt)); have HB3 := Lib.hid (boxed_grown HBd.out HOd.out hBa1 hg1); have HK3 := Lib.hid ((KeepsOthers.drew W).trans (keep_grown HOd.out hg1)); have HN3 := Lib.hid (below_grown HOd.out hzd hg1); have HO1 := Lib.hid ho1; clear ho1 hg1)
              refine wpAnyIn_ready (rs := [4]) (by kernel_rfl) (by simp) ?_
              refine AllReadyIn.cons rfl (fun K hK => ?_) AllReadyIn.nil
              (go_simp; refine hK _ _ ?_; clear hK K)
              refine wpAnyIn_ready (rs := [5]) (by kernel_rfl) (by simp) ?_
              refine AllReadyIn.cons rfl (fun K hK => ?_) AllReadyIn.nil
              (refine stepIn_any W0.heap.size (.slice A1 M.length c1) M [13, 10] (some ⟨0, 0, none⟩) 2 2 (.tmp 29) (.tmp 30) HO1.out HE1.out (by simp) rfl rfl rfl rfl rfl (by simp; omega) hz3 ?_; intro v2 w4 ho2 hg2; rw [← HNe.out] at ho2; obtain ⟨A2, c2, rfl, hc2, -, -⟩ := ho2.slice; refine hK _ _ ?_; clear hK K; have HB4 := Lib.hid (boxed_grown HB3.out HO1.out hBa1 hg2); have c4 := HB4.out.cell; have f4 := HB4.out.frozen; have HO2 := Lib.hid ho2; have HG2 := Lib.hid hg2; clear ho2 hg2)
              refine wpAnyIn_ready (rs := [6]) (by kernel_rfl) (by simp) ?_
              refine AllReadyIn.cons rfl (fun K hK => ?_) AllReadyIn.nil
              (go_simp; refine hK _ _ ?_; clear hK K)
              (refine wpAnyIn_done (by kernel_rfl) ?_ _; refine ⟨rfl, _, _, _, _, _, _, A2, c2, rfl, Lib.hid (HB4.out.set _), Lib.hid (HO2.out.setG hBa1 _ _), Lib.hid (HK3.out.trans ((keep_grown HO1.out HG2.out).trans (KeepsOthers.setCell _ _ _))), Lib.hid (fun k hk hne => (heap_set_ne0 _ _ _ _ _ hne).trans ((below_grown HO1.out hz3 HG2.out k hk).trans (HN3.out k hk))), Lib.hid ((low_of_grown HL3w.out (HO1.out.weak0 (Nat.le_of_lt hBa1)) (by omega) HG2.out).setCell (Nat.le_refl _) _)⟩)
            refine AllReadyIn.cons rfl (fun K hK => ?_) AllReadyIn.nil
            (go_simp; refine hK _ _ ?_; clear hK K)
            refine wpAnyIn_ready (rs := [3]) (by kernel_rfl) (by simp) ?_
            refine AllReadyIn.cons rfl (fun K hK => ?_) AllReadyIn.nil
            (refine stepIn_call3 77 (.tmp 26) (.tmp 28) (.const (.int .i64 16)) _ (.slice A0 L.length c0) (.int .i64 (xb.length : Int)) (.int .i64 16) rfl rfl rfl rfl rfl (enters_of Tryz.func77 (by kernel_rfl) rfl) trivial (fun _ => by omega) (CallsIn.inRound lp (callsIn_wide.2 HX.out)) ?_; rintro e w3 ⟨v1, rfl, ho1, hg1⟩; obtain ⟨A1, c1, rfl, hc1, -, -⟩ := ho1.slice; refine ⟨_, rfl, hK _ _ ?_⟩; clear hK K; have hz3 : W0.heap.size ≤ w3.heap.size := Nat.le_trans hzd hg1.size; have HL3w := Lib.hid (low_of_grown HLd.out (HOd.out.weak0 (Nat.le_of_lt hBa1)) (by omega) hg1); have HE1 := Lib.hid (end_bts (Hg.out.low (HLw.out.trans (HL3w.out.mono hw2)) Hg.out.lt)); have HB3 := Lib.hid (boxed_grown HBd.out HOd.out hBa1 hg1); have HK3 := Lib.hid ((KeepsOthers.drew W).trans (keep_grown HOd.out hg1)); have HN3 := Lib.hid (below_grown HOd.out hzd hg1); have HO1 := Lib.hid ho1; clear ho1 hg1)
            refine wpAnyIn_ready (rs := [5]) (by kernel_rfl) (by simp) ?_
            refine AllReadyIn.cons rfl (fun K hK => ?_) AllReadyIn.nil
            (refine stepIn_any W0.heap.size (.slice A1 M.length c1) M [13, 10] (some ⟨0, 0, none⟩) 2 2 (.tmp 29) (.tmp 30) HO1.out HE1.out (by simp) rfl rfl rfl rfl rfl (by simp; omega) hz3 ?_; intro v2 w4 ho2 hg2; rw [← HNe.out] at ho2; obtain ⟨A2, c2, rfl, hc2, -, -⟩ := ho2.slice; refine hK _ _ ?_; clear hK K; have HB4 := Lib.hid (boxed_grown HB3.out HO1.out hBa1 hg2); have c4 := HB4.out.cell; have f4 := HB4.out.frozen; have HO2 := Lib.hid ho2; have HG2 := Lib.hid hg2; clear ho2 hg2)
            refine wpAnyIn_ready (rs := [6]) (by kernel_rfl) (by simp) ?_
            refine AllReadyIn.cons rfl (fun K hK => ?_) AllReadyIn.nil
            (go_simp; refine hK _ _ ?_; clear hK K)
            (refine wpAnyIn_done (by kernel_rfl) ?_ _; refine ⟨rfl, _, _, _, _, _, _, A2, c2, rfl, Lib.hid (HB4.out.set _), Lib.hid (HO2.out.setG hBa1 _ _), Lib.hid (HK3.out.trans ((keep_grown HO1.out HG2.out).trans (KeepsOthers.setCell _ _ _))), Lib.hid (fun k hk hne => (heap_set_ne0 _ _ _ _ _ hne).trans ((below_grown HO1.out hz3 HG2.out k hk).trans (HN3.out k hk))), Lib.hid ((low_of_grown HL3w.out (HO1.out.weak0 (Nat.le_of_lt hBa1)) (by omega) HG2.out).setCell (Nat.le_refl _) _)⟩)
          refine AllReadyIn.cons rfl (fun K hK => ?_) AllReadyIn.nil
          (go_simp; refine hK _ _ ?_; clear hK K)
          refine wpAnyIn_ready (rs := [2]) (by kernel_rfl) (by simp) ?_
          refine AllReadyIn.cons rfl (fun K hK => ?_) AllReadyIn.nil
          (go_simp; refine hK _ _ ?_; clear hK K)
          refine wpAnyIn_ready (rs := [3]) (by kernel_rfl) (by simp) ?_
          refine AllReadyIn.cons rfl (fun K hK => ?_) AllReadyIn.nil
          (refine stepIn_call3 77 (.tmp 26) (.tmp 28) (.const (.int .i64 16)) _ (.slice A0 L.length c0) (.int .i64 (xb.length : Int)) (.int .i64 16) rfl rfl rfl rfl rfl (enters_of Tryz.func77 (by kernel_rfl) rfl) trivial (fun _ => by omega) (CallsIn.inRound lp (callsIn_wide.2 HX.out)) ?_; rintro e w3 ⟨v1, rfl, ho1, hg1⟩; obtain ⟨A1, c1, rfl, hc1, -, -⟩ := ho1.slice; refine ⟨_, rfl, hK _ _ ?_⟩; clear hK K; have hz3 : W0.heap.size ≤ w3.heap.size := Nat.le_trans hzd hg1.size; have HL3w := Lib.hid (low_of_grown HLd.out (HOd.out.weak0 (Nat.le_of_lt hBa1)) (by omega) hg1); have HE1 := Lib.hid (end_bts (Hg.out.low (HLw.out.trans (HL3w.out.mono hw2)) Hg.out.lt)); have HB3 := Lib.hid (boxed_grown HBd.out HOd.out hBa1 hg1); have HK3 := Lib.hid ((KeepsOthers.drew W).trans (keep_grown HOd.out hg1)); have HN3 := Lib.hid (below_grown HOd.out hzd hg1); have HO1 := Lib.hid ho1; clear ho1 hg1)
          refine wpAnyIn_ready (rs := [5]) (by kernel_rfl) (by simp) ?_
          refine AllReadyIn.cons rfl (fun K hK => ?_) AllReadyIn.nil
          (refine stepIn_any W0.heap.size (.slice A1 M.length c1) M [13, 10] (some ⟨0, 0, none⟩) 2 2 (.tmp 29) (.tmp 30) HO1.out HE1.out (by simp) rfl rfl rfl rfl rfl (by simp; omega) hz3 ?_; intro v2 w4 ho2 hg2; rw [← HNe.out] at ho2; obtain ⟨A2, c2, rfl, hc2, -, -⟩ := ho2.slice; refine hK _ _ ?_; clear hK K; have HB4 := Lib.hid (boxed_grown HB3.out HO1.out hBa1 hg2); have c4 := HB4.out.cell; have f4 := HB4.out.frozen; have HO2 := Lib.hid ho2; have HG2 := Lib.hid hg2; clear ho2 hg2)
          refine wpAnyIn_ready (rs := [6]) (by kernel_rfl) (by simp) ?_
          refine AllReadyIn.cons rfl (fun K hK => ?_) AllReadyIn.nil
          (go_simp; refine hK _ _ ?_; clear hK K)
          (refine wpAnyIn_done (by kernel_rfl) ?_ _; refine ⟨rfl, _, _, _, _, _, _, A2, c2, rfl, Lib.hid (HB4.out.set _), Lib.hid (HO2.out.setG hBa1 _ _), Lib.hid (HK3.out.trans ((keep_grown HO1.out HG2.out).trans (KeepsOthers.setCell _ _ _))), Lib.hid (fun k hk hne => (heap_set_ne0 _ _ _ _ _ hne).trans ((below_grown HO1.out hz3 HG2.out k hk).trans (HN3.out k hk))), Lib.hid ((low_of_grown HL3w.out (HO1.out.weak0 (Nat.le_of_lt hBa1)) (by omega) HG2.out).setCell (Nat.le_refl _) _)⟩)
        refine AllReadyIn.cons rfl (fun K hK => ?_) ?_
        · (go_simp; refine hK _ _ ?_; clear hK K)
          refine wpAnyIn_ready (rs := [0, 4]) (by kernel_rfl) (by simp) ?_
          refine AllReadyIn.cons rfl (fun K hK => ?_) ?_
          · (go_simp; refine hK _ _ ?_; clear hK K)
            refine wpAnyIn_ready (rs := [3, 4]) (by kernel_rfl) (by simp) ?_
            refine AllReadyIn.cons rfl (fun K hK => ?_) ?_
            · (refine stepIn_call3 77 (.tmp 26) (.tmp 28) (.const (.int .i64 16)) _ (.slice A0 L.length c0) (.int .i64 (xb.length : Int)) (.int .i64 16) rfl rfl rfl rfl rfl (enters_of Tryz.func77 (by kernel_rfl) rfl) trivial (fun _ => by omega) (CallsIn.inRound lp (callsIn_wide.2 HX.out)) ?_; rintro e w3 ⟨v1, rfl, ho1, hg1⟩; obtain ⟨A1, c1, rfl, hc1, -, -⟩ := ho1.slice; refine ⟨_, rfl, hK _ _ ?_⟩; clear hK K; have hz3 : W0.heap.size ≤ w3.heap.size := Nat.le_trans hzd hg1.size; have HL3w := Lib.hid (low_of_grown HLd.out (HOd.out.weak0 (Nat.le_of_lt hBa1)) (by omega) hg1); have HE1 := Lib.hid (end_bts (Hg.out.low (HLw.out.trans (HL3w.out.mono hw2)) Hg.out.lt)); have HB3 := Lib.hid (boxed_grown HBd.out HOd.out hBa1 hg1); have HK3 := Lib.hid ((KeepsOthers.drew W).trans (keep_grown HOd.out hg1)); have HN3 := Lib.hid (below_grown HOd.out hzd hg1); have HO1 := Lib.hid ho1; clear ho1 hg1)
              refine wpAnyIn_ready (rs := [4]) (by kernel_rfl) (by simp) ?_
              refine AllReadyIn.cons rfl (fun K hK => ?_) AllReadyIn.nil
              (go_simp; refine hK _ _ ?_; clear hK K)
              refine wpAnyIn_ready (rs := [5]) (by kernel_rfl) (by simp) ?_
              refine AllReadyIn.cons rfl (fun K hK => ?_) AllReadyIn.nil
              (refine stepIn_any W0.heap.size (.slice A1 M.length c1) M [13, 10] (some ⟨0, 0, none⟩) 2 2 (.tmp 29) (.tmp 30) HO1.out HE1.out (by simp) rfl rfl rfl rfl rfl (by simp; omega) hz3 ?_; intro v2 w4 ho2 hg2; rw [← HNe.out] at ho2; obtain ⟨A2, c2, rfl, hc2, -, -⟩ := ho2.slice; refine hK _ _ ?_; clear hK K; have HB4 := Lib.hid (boxed_grown HB3.out HO1.out hBa1 hg2); have c4 := HB4.out.cell; have f4 := HB4.out.frozen; have HO2 := Lib.hid ho2; have HG2 := Lib.hid hg2; clear ho2 hg2)
              refine wpAnyIn_ready (rs := [6]) (by kernel_rfl) (by simp) ?_
              refine AllReadyIn.cons rfl (fun K hK => ?_) AllReadyIn.nil
              (go_simp; refine hK _ _ ?_; clear hK K)
              (refine wpAnyIn_done (by kernel_rfl) ?_ _; refine ⟨rfl, _, _, _, _, _, _, A2, c2, rfl, Lib.hid (HB4.out.set _), Lib.hid (HO2.out.setG hBa1 _ _), Lib.hid (HK3.out.trans ((keep_grown HO1.out HG2.out).trans (KeepsOthers.setCell _ _ _))), Lib.hid (fun k hk hne => (heap_set_ne0 _ _ _ _ _ hne).trans ((below_grown HO1.out hz3 HG2.out k hk).trans (HN3.out k hk))), Lib.hid ((low_of_grown HL3w.out (HO1.out.weak0 (Nat.le_of_lt hBa1)) (by omega) HG2.out).setCell (Nat.le_refl _) _)⟩)
            refine AllReadyIn.cons rfl (fun K hK => ?_) AllReadyIn.nil
            (go_simp; refine hK _ _ ?_; clear hK K)
            refine wpAnyIn_ready (rs := [3]) (by kernel_rfl) (by simp) ?_
            refine AllReadyIn.cons rfl (fun K hK => ?_) AllReadyIn.nil
            (refine stepIn_call3 77 (.tmp 26) (.tmp 28) (.const (.int .i64 16)) _ (.slice A0 L.length c0) (.int .i64 (xb.length : Int)) (.int .i64 16) rfl rfl rfl rfl rfl (enters_of Tryz.func77 (by kernel_rfl) rfl) trivial (fun _ => by omega) (CallsIn.inRound lp (callsIn_wide.2 HX.out)) ?_; rintro e w3 ⟨v1, rfl, ho1, hg1⟩; obtain ⟨A1, c1, rfl, hc1, -, -⟩ := ho1.slice; refine ⟨_, rfl, hK _ _ ?_⟩; clear hK K; have hz3 : W0.heap.size ≤ w3.heap.size := Nat.le_trans hzd hg1.size; have HL3w := Lib.hid (low_of_grown HLd.out (HOd.out.weak0 (Nat.le_of_lt hBa1)) (by omega) hg1); have HE1 := Lib.hid (end_bts (Hg.out.low (HLw.out.trans (HL3w.out.mono hw2)) Hg.out.lt)); have HB3 := Lib.hid (boxed_grown HBd.out HOd.out hBa1 hg1); have HK3 := Lib.hid ((KeepsOthers.drew W).trans (keep_grown HOd.out hg1)); have HN3 := Lib.hid (below_grown HOd.out hzd hg1); have HO1 := Lib.hid ho1; clear ho1 hg1)
            refine wpAnyIn_ready (rs := [5]) (by kernel_rfl) (by simp) ?_
            refine AllReadyIn.cons rfl (fun K hK => ?_) AllReadyIn.nil
            (refine stepIn_any W0.heap.size (.slice A1 M.length c1) M [13, 10] (some ⟨0, 0, none⟩) 2 2 (.tmp 29) (.tmp 30) HO1.out HE1.out (by simp) rfl rfl rfl rfl rfl (by simp; omega) hz3 ?_; intro v2 w4 ho2 hg2; rw [← HNe.out] at ho2; obtain ⟨A2, c2, rfl, hc2, -, -⟩ := ho2.slice; refine hK _ _ ?_; clear hK K; have HB4 := Lib.hid (boxed_grown HB3.out HO1.out hBa1 hg2); have c4 := HB4.out.cell; have f4 := HB4.out.frozen; have HO2 := Lib.hid ho2; have HG2 := Lib.hid hg2; clear ho2 hg2)
            refine wpAnyIn_ready (rs := [6]) (by kernel_rfl) (by simp) ?_
            refine AllReadyIn.cons rfl (fun K hK => ?_) AllReadyIn.nil
            (go_simp; refine hK _ _ ?_; clear hK K)
            (refine wpAnyIn_done (by kernel_rfl) ?_ _; refine ⟨rfl, _, _, _, _, _, _, A2, c2, rfl, Lib.hid (HB4.out.set _), Lib.hid (HO2.out.setG hBa1 _ _), Lib.hid (HK3.out.trans ((keep_grown HO1.out HG2.out).trans (KeepsOthers.setCell _ _ _))), Lib.hid (fun k hk hne => (heap_set_ne0 _ _ _ _ _ hne).trans ((below_grown HO1.out hz3 HG2.out k hk).trans (HN3.out k hk))), Lib.hid ((low_of_grown HL3w.out (HO1.out.weak0 (Nat.le_of_lt hBa1)) (by omega) HG2.out).setCell (Nat.le_refl _) _)⟩)
          refine AllReadyIn.cons rfl (fun K hK => ?_) AllReadyIn.nil
          (go_simp; refine hK _ _ ?_; clear hK K)
          refine wpAnyIn_ready (rs := [0]) (by kernel_rfl) (by simp) ?_
          refine AllReadyIn.cons rfl (fun K hK => ?_) AllReadyIn.nil
          (go_simp; refine hK _ _ ?_; clear hK K)
          refine wpAnyIn_ready (rs := [3]) (by kernel_rfl) (by simp) ?_
          refine AllReadyIn.cons rfl (fun K hK => ?_) AllReadyIn.nil
          (refine stepIn_call3 77 (.tmp 26) (.tmp 28) (.const (.int .i64 16)) _ (.slice A0 L.length c0) (.int .i64 (xb.length : Int)) (.int .i64 16) rfl rfl rfl rfl rfl (enters_of Tryz.func77 (by kernel_rfl) rfl) trivial (fun _ => by omega) (CallsIn.inRound lp (callsIn_wide.2 HX.out)) ?_; rintro e w3 ⟨v1, rfl, ho1, hg1⟩; obtain ⟨A1, c1, rfl, hc1, -, -⟩ := ho1.slice; refine ⟨_, rfl, hK _ _ ?_⟩; clear hK K; have hz3 : W0.heap.size ≤ w3.heap.size := Nat.le_trans hzd hg1.size; have HL3w := Lib.hid (low_of_grown HLd.out (HOd.out.weak0 (Nat.le_of_lt hBa1)) (by omega) hg1); have HE1 := Lib.hid (end_bts (Hg.out.low (HLw.out.trans (HL3w.out.mono hw2)) Hg.out.lt)); have HB3 := Lib.hid (boxed_grown HBd.out HOd.out hBa1 hg1); have HK3 := Lib.hid ((KeepsOthers.drew W).trans (keep_grown HOd.out hg1)); have HN3 := Lib.hid (below_grown HOd.out hzd hg1); have HO1 := Lib.hid ho1; clear ho1 hg1)
          refine wpAnyIn_ready (rs := [5]) (by kernel_rfl) (by simp) ?_
          refine AllReadyIn.cons rfl (fun K hK => ?_) AllReadyIn.nil
          (refine stepIn_any W0.heap.size (.slice A1 M.length c1) M [13, 10] (some ⟨0, 0, none⟩) 2 2 (.tmp 29) (.tmp 30) HO1.out HE1.out (by simp) rfl rfl rfl rfl rfl (by simp; omega) hz3 ?_; intro v2 w4 ho2 hg2; rw [← HNe.out] at ho2; obtain ⟨A2, c2, rfl, hc2, -, -⟩ := ho2.slice; refine hK _ _ ?_; clear hK K; have HB4 := Lib.hid (boxed_grown HB3.out HO1.out hBa1 hg2); have c4 := HB4.out.cell; have f4 := HB4.out.frozen; have HO2 := Lib.hid ho2; have HG2 := Lib.hid hg2; clear ho2 hg2)
          refine wpAnyIn_ready (rs := [6]) (by kernel_rfl) (by simp) ?_
          refine AllReadyIn.cons rfl (fun K hK => ?_) AllReadyIn.nil
          (go_simp; refine hK _ _ ?_; clear hK K)
          (refine wpAnyIn_done (by kernel_rfl) ?_ _; refine ⟨rfl, _, _, _, _, _, _, A2, c2, rfl, Lib.hid (HB4.out.set _), Lib.hid (HO2.out.setG hBa1 _ _), Lib.hid (HK3.out.trans ((keep_grown HO1.out HG2.out).trans (KeepsOthers.setCell _ _ _))), Lib.hid (fun k hk hne => (heap_set_ne0 _ _ _ _ _ hne).trans ((below_grown HO1.out hz3 HG2.out k hk).trans (HN3.out k hk))), Lib.hid ((low_of_grown HL3w.out (HO1.out.weak0 (Nat.le_of_lt hBa1)) (by omega) HG2.out).setCell (Nat.le_refl _) _)⟩)
        refine AllReadyIn.cons rfl (fun K hK => ?_) AllReadyIn.nil
        (go_simp; refine hK _ _ ?_; clear hK K)
        refine wpAnyIn_ready (rs := [0, 2]) (by kernel_rfl) (by simp) ?_
        refine AllReadyIn.cons rfl (fun K hK => ?_) ?_
        · (go_simp; refine hK _ _ ?_; clear hK K)
          refine wpAnyIn_ready (rs := [2]) (by kernel_rfl) (by simp) ?_
          refine AllReadyIn.cons rfl (fun K hK => ?_) AllReadyIn.nil
          (go_simp; refine hK _ _ ?_; clear hK K)
          refine wpAnyIn_ready (rs := [3]) (by kernel_rfl) (by simp) ?_
          refine AllReadyIn.cons rfl (fun K hK => ?_) AllReadyIn.nil
          (refine stepIn_call3 77 (.tmp 26) (.tmp 28) (.const (.int .i64 16)) _ (.slice A0 L.length c0) (.int .i64 (xb.length : Int)) (.int .i64 16) rfl rfl rfl rfl rfl (enters_of Tryz.func77 (by kernel_rfl) rfl) trivial (fun _ => by omega) (CallsIn.inRound lp (callsIn_wide.2 HX.out)) ?_; rintro e w3 ⟨v1, rfl, ho1, hg1⟩; obtain ⟨A1, c1, rfl, hc1, -, -⟩ := ho1.slice; refine ⟨_, rfl, hK _ _ ?_⟩; clear hK K; have hz3 : W0.heap.size ≤ w3.heap.size := Nat.le_trans hzd hg1.size; have HL3w := Lib.hid (low_of_grown HLd.out (HOd.out.weak0 (Nat.le_of_lt hBa1)) (by omega) hg1); have HE1 := Lib.hid (end_bts (Hg.out.low (HLw.out.trans (HL3w.out.mono hw2)) Hg.out.lt)); have HB3 := Lib.hid (boxed_grown HBd.out HOd.out hBa1 hg1); have HK3 := Lib.hid ((KeepsOthers.drew W).trans (keep_grown HOd.out hg1)); have HN3 := Lib.hid (below_grown HOd.out hzd hg1); have HO1 := Lib.hid ho1; clear ho1 hg1)
          refine wpAnyIn_ready (rs := [5]) (by kernel_rfl) (by simp) ?_
          refine AllReadyIn.cons rfl (fun K hK => ?_) AllReadyIn.nil
          (refine stepIn_any W0.heap.size (.slice A1 M.length c1) M [13, 10] (some ⟨0, 0, none⟩) 2 2 (.tmp 29) (.tmp 30) HO1.out HE1.out (by simp) rfl rfl rfl rfl rfl (by simp; omega) hz3 ?_; intro v2 w4 ho2 hg2; rw [← HNe.out] at ho2; obtain ⟨A2, c2, rfl, hc2, -, -⟩ := ho2.slice; refine hK _ _ ?_; clear hK K; have HB4 := Lib.hid (boxed_grown HB3.out HO1.out hBa1 hg2); have c4 := HB4.out.cell; have f4 := HB4.out.frozen; have HO2 := Lib.hid ho2; have HG2 := Lib.hid hg2; clear ho2 hg2)
          refine wpAnyIn_ready (rs := [6]) (by kernel_rfl) (by simp) ?_
          refine AllReadyIn.cons rfl (fun K hK => ?_) AllReadyIn.nil
          (go_simp; refine hK _ _ ?_; clear hK K)
          (refine wpAnyIn_done (by kernel_rfl) ?_ _; refine ⟨rfl, _, _, _, _, _, _, A2, c2, rfl, Lib.hid (HB4.out.set _), Lib.hid (HO2.out.setG hBa1 _ _), Lib.hid (HK3.out.trans ((keep_grown HO1.out HG2.out).trans (KeepsOthers.setCell _ _ _))), Lib.hid (fun k hk hne => (heap_set_ne0 _ _ _ _ _ hne).trans ((below_grown HO1.out hz3 HG2.out k hk).trans (HN3.out k hk))), Lib.hid ((low_of_grown HL3w.out (HO1.out.weak0 (Nat.le_of_lt hBa1)) (by omega) HG2.out).setCell (Nat.le_refl _) _)⟩)
        refine AllReadyIn.cons rfl (fun K hK => ?_) AllReadyIn.nil
        (go_simp; refine hK _ _ ?_; clear hK K)
        refine wpAnyIn_ready (rs := [0]) (by kernel_rfl) (by simp) ?_
        refine AllReadyIn.cons rfl (fun K hK => ?_) AllReadyIn.nil
        (go_simp; refine hK _ _ ?_; clear hK K)
        refine wpAnyIn_ready (rs := [3]) (by kernel_rfl) (by simp) ?_
        refine AllReadyIn.cons rfl (fun K hK => ?_) AllReadyIn.nil
        (refine stepIn_call3 77 (.tmp 26) (.tmp 28) (.const (.int .i64 16)) _ (.slice A0 L.length c0) (.int .i64 (xb.length : Int)) (.int .i64 16) rfl rfl rfl rfl rfl (enters_of Tryz.func77 (by kernel_rfl) rfl) trivial (fun _ => by omega) (CallsIn.inRound lp (callsIn_wide.2 HX.out)) ?_; rintro e w3 ⟨v1, rfl, ho1, hg1⟩; obtain ⟨A1, c1, rfl, hc1, -, -⟩ := ho1.slice; refine ⟨_, rfl, hK _ _ ?_⟩; clear hK K; have hz3 : W0.heap.size ≤ w3.heap.size := Nat.le_trans hzd hg1.size; have HL3w := Lib.hid (low_of_grown HLd.out (HOd.out.weak0 (Nat.le_of_lt hBa1)) (by omega) hg1); have HE1 := Lib.hid (end_bts (Hg.out.low (HLw.out.trans (HL3w.out.mono hw2)) Hg.out.lt)); have HB3 := Lib.hid (boxed_grown HBd.out HOd.out hBa1 hg1); have HK3 := Lib.hid ((KeepsOthers.drew W).trans (keep_grown HOd.out hg1)); have HN3 := Lib.hid (below_grown HOd.out hzd hg1); have HO1 := Lib.hid ho1; clear ho1 hg1)
        refine wpAnyIn_ready (rs := [5]) (by kernel_rfl) (by simp) ?_
        refine AllReadyIn.cons rfl (fun K hK => ?_) AllReadyIn.nil
        (refine stepIn_any W0.heap.size (.slice A1 M.length c1) M [13, 10] (some ⟨0, 0, none⟩) 2 2 (.tmp 29) (.tmp 30) HO1.out HE1.out (by simp) rfl rfl rfl rfl rfl (by simp; omega) hz3 ?_; intro v2 w4 ho2 hg2; rw [← HNe.out] at ho2; obtain ⟨A2, c2, rfl, hc2, -, -⟩ := ho2.slice; refine hK _ _ ?_; clear hK K; have HB4 := Lib.hid (boxed_grown HB3.out HO1.out hBa1 hg2); have c4 := HB4.out.cell; have f4 := HB4.out.frozen; have HO2 := Lib.hid ho2; have HG2 := Lib.hid hg2; clear ho2 hg2)
        refine wpAnyIn_ready (rs := [6]) (by kernel_rfl) (by simp) ?_
        refine AllReadyIn.cons rfl (fun K hK => ?_) AllReadyIn.nil
        (go_simp; refine hK _ _ ?_; clear hK K)
        (refine wpAnyIn_done (by kernel_rfl) ?_ _; refine ⟨rfl, _, _, _, _, _, _, A2, c2, rfl, Lib.hid (HB4.out.set _), Lib.hid (HO2.out.setG hBa1 _ _), Lib.hid (HK3.out.trans ((keep_grown HO1.out HG2.out).trans (KeepsOthers.setCell _ _ _))), Lib.hid (fun k hk hne => (heap_set_ne0 _ _ _ _ _ hne).trans ((below_grown HO1.out hz3 HG2.out k hk).trans (HN3.out k hk))), Lib.hid ((low_of_grown HL3w.out (HO1.out.weak0 (Nat.le_of_lt hBa1)) (by omega) HG2.out).setCell (Nat.le_refl _) _)⟩)
      refine AllReadyIn.cons rfl (fun K hK => ?_) AllReadyIn.nil
      (go_simp; refine hK _ _ ?_; clear hK K)
      refine wpAnyIn_ready (rs := [0, 1]) (by kernel_rfl) (by simp) ?_
      refine AllReadyIn.cons rfl (fun K hK => ?_) ?_
      · (go_simp; refine hK _ _ ?_; clear hK K)
        refine wpAnyIn_ready (rs := [1]) (by kernel_rfl) (by simp) ?_
        refine AllReadyIn.cons rfl (fun K hK => ?_) AllReadyIn.nil
        (go_simp; refine hK _ _ ?_; clear hK K)
        refine wpAnyIn_ready (rs := [2]) (by kernel_rfl) (by simp) ?_
        refine AllReadyIn.cons rfl (fun K hK => ?_) AllReadyIn.nil
        (go_simp; refine hK _ _ ?_; clear hK K)
        refine wpAnyIn_ready (rs := [3]) (by kernel_rfl) (by simp) ?_
        refine AllReadyIn.cons rfl (fun K hK => ?_) AllReadyIn.nil
        (refine stepIn_call3 77 (.tmp 26) (.tmp 28) (.const (.int .i64 16)) _ (.slice A0 L.length c0) (.int .i64 (xb.length : Int)) (.int .i64 16) rfl rfl rfl rfl rfl (enters_of Tryz.func77 (by kernel_rfl) rfl) trivial (fun _ => by omega) (CallsIn.inRound lp (callsIn_wide.2 HX.out)) ?_; rintro e w3 ⟨v1, rfl, ho1, hg1⟩; obtain ⟨A1, c1, rfl, hc1, -, -⟩ := ho1.slice; refine ⟨_, rfl, hK _ _ ?_⟩; clear hK K; have hz3 : W0.heap.size ≤ w3.heap.size := Nat.le_trans hzd hg1.size; have HL3w := Lib.hid (low_of_grown HLd.out (HOd.out.weak0 (Nat.le_of_lt hBa1)) (by omega) hg1); have HE1 := Lib.hid (end_bts (Hg.out.low (HLw.out.trans (HL3w.out.mono hw2)) Hg.out.lt)); have HB3 := Lib.hid (boxed_grown HBd.out HOd.out hBa1 hg1); have HK3 := Lib.hid ((KeepsOthers.drew W).trans (keep_grown HOd.out hg1)); have HN3 := Lib.hid (below_grown HOd.out hzd hg1); have HO1 := Lib.hid ho1; clear ho1 hg1)
        refine wpAnyIn_ready (rs := [5]) (by kernel_rfl) (by simp) ?_
        refine AllReadyIn.cons rfl (fun K hK => ?_) AllReadyIn.nil
        (refine stepIn_any W0.heap.size (.slice A1 M.length c1) M [13, 10] (some ⟨0, 0, none⟩) 2 2 (.tmp 29) (.tmp 30) HO1.out HE1.out (by simp) rfl rfl rfl rfl rfl (by simp; omega) hz3 ?_; intro v2 w4 ho2 hg2; rw [← HNe.out] at ho2; obtain ⟨A2, c2, rfl, hc2, -, -⟩ := ho2.slice; refine hK _ _ ?_; clear hK K; have HB4 := Lib.hid (boxed_grown HB3.out HO1.out hBa1 hg2); have c4 := HB4.out.cell; have f4 := HB4.out.frozen; have HO2 := Lib.hid ho2; have HG2 := Lib.hid hg2; clear ho2 hg2)
        refine wpAnyIn_ready (rs := [6]) (by kernel_rfl) (by simp) ?_
        refine AllReadyIn.cons rfl (fun K hK => ?_) AllReadyIn.nil
        (go_simp; refine hK _ _ ?_; clear hK K)
        (refine wpAnyIn_done (by kernel_rfl) ?_ _; refine ⟨rfl, _, _, _, _, _, _, A2, c2, rfl, Lib.hid (HB4.out.set _), Lib.hid (HO2.out.setG hBa1 _ _), Lib.hid (HK3.out.trans ((keep_grown HO1.out HG2.out).trans (KeepsOthers.setCell _ _ _))), Lib.hid (fun k hk hne => (heap_set_ne0 _ _ _ _ _ hne).trans ((below_grown HO1.out hz3 HG2.out k hk).trans (HN3.out k hk))), Lib.hid ((low_of_grown HL3w.out (HO1.out.weak0 (Nat.le_of_lt hBa1)) (by omega) HG2.out).setCell (Nat.le_refl _) _)⟩)
      refine AllReadyIn.cons rfl (fun K hK => ?_) AllReadyIn.nil
      (go_simp; refine hK _ _ ?_; clear hK K)
      refine wpAnyIn_ready (rs := [0, 2]) (by kernel_rfl) (by simp) ?_
      refine AllReadyIn.cons rfl (fun K hK => ?_) ?_
      · (go_simp; refine hK _ _ ?_; clear hK K)
        refine wpAnyIn_ready (rs := [2]) (by kernel_rfl) (by simp) ?_
        refine AllReadyIn.cons rfl (fun K hK => ?_) AllReadyIn.nil
        (go_simp; refine hK _ _ ?_; clear hK K)
        refine wpAnyIn_ready (rs := [3]) (by kernel_rfl) (by simp) ?_
        refine AllReadyIn.cons rfl (fun K hK => ?_) AllReadyIn.nil
        (refine stepIn_call3 77 (.tmp 26) (.tmp 28) (.const (.int .i64 16)) _ (.slice A0 L.length c0) (.int .i64 (xb.length : Int)) (.int .i64 16) rfl rfl rfl rfl rfl (enters_of Tryz.func77 (by kernel_rfl) rfl) trivial (fun _ => by omega) (CallsIn.inRound lp (callsIn_wide.2 HX.out)) ?_; rintro e w3 ⟨v1, rfl, ho1, hg1⟩; obtain ⟨A1, c1, rfl, hc1, -, -⟩ := ho1.slice; refine ⟨_, rfl, hK _ _ ?_⟩; clear hK K; have hz3 : W0.heap.size ≤ w3.heap.size := Nat.le_trans hzd hg1.size; have HL3w := Lib.hid (low_of_grown HLd.out (HOd.out.weak0 (Nat.le_of_lt hBa1)) (by omega) hg1); have HE1 := Lib.hid (end_bts (Hg.out.low (HLw.out.trans (HL3w.out.mono hw2)) Hg.out.lt)); have HB3 := Lib.hid (boxed_grown HBd.out HOd.out hBa1 hg1); have HK3 := Lib.hid ((KeepsOthers.drew W).trans (keep_grown HOd.out hg1)); have HN3 := Lib.hid (below_grown HOd.out hzd hg1); have HO1 := Lib.hid ho1; clear ho1 hg1)
        refine wpAnyIn_ready (rs := [5]) (by kernel_rfl) (by simp) ?_
        refine AllReadyIn.cons rfl (fun K hK => ?_) AllReadyIn.nil
        (refine stepIn_any W0.heap.size (.slice A1 M.length c1) M [13, 10] (some ⟨0, 0, none⟩) 2 2 (.tmp 29) (.tmp 30) HO1.out HE1.out (by simp) rfl rfl rfl rfl rfl (by simp; omega) hz3 ?_; intro v2 w4 ho2 hg2; rw [← HNe.out] at ho2; obtain ⟨A2, c2, rfl, hc2, -, -⟩ := ho2.slice; refine hK _ _ ?_; clear hK K; have HB4 := Lib.hid (boxed_grown HB3.out HO1.out hBa1 hg2); have c4 := HB4.out.cell; have f4 := HB4.out.frozen; have HO2 := Lib.hid ho2; have HG2 := Lib.hid hg2; clear ho2 hg2)
        refine wpAnyIn_ready (rs := [6]) (by kernel_rfl) (by simp) ?_
        refine AllReadyIn.cons rfl (fun K hK => ?_) AllReadyIn.nil
        (go_simp; refine hK _ _ ?_; clear hK K)
        (refine wpAnyIn_done (by kernel_rfl) ?_ _; refine ⟨rfl, _, _, _, _, _, _, A2, c2, rfl, Lib.hid (HB4.out.set _), Lib.hid (HO2.out.setG hBa1 _ _), Lib.hid (HK3.out.trans ((keep_grown HO1.out HG2.out).trans (KeepsOthers.setCell _ _ _))), Lib.hid (fun k hk hne => (heap_set_ne0 _ _ _ _ _ hne).trans ((below_grown HO1.out hz3 HG2.out k hk).trans (HN3.out k hk))), Lib.hid ((low_of_grown HL3w.out (HO1.out.weak0 (Nat.le_of_lt hBa1)) (by omega) HG2.out).setCell (Nat.le_refl _) _)⟩)
      refine AllReadyIn.cons rfl (fun K hK => ?_) AllReadyIn.nil
      (go_simp; refine hK _ _ ?_; clear hK K)
      refine wpAnyIn_ready (rs := [0]) (by kernel_rfl) (by simp) ?_
      refine AllReadyIn.cons rfl (fun K hK => ?_) AllReadyIn.nil
      (go_simp; refine hK _ _ ?_; clear hK K)
      refine wpAnyIn_ready (rs := [3]) (by kernel_rfl) (by simp) ?_
      refine AllReadyIn.cons rfl (fun K hK => ?_) AllReadyIn.nil
      (refine stepIn_call3 77 (.tmp 26) (.tmp 28) (.const (.int .i64 16)) _ (.slice A0 L.length c0) (.int .i64 (xb.length : Int)) (.int .i64 16) rfl rfl rfl rfl rfl (enters_of Tryz.func77 (by kernel_rfl) rfl) trivial (fun _ => by omega) (CallsIn.inRound lp (callsIn_wide.2 HX.out)) ?_; rintro e w3 ⟨v1, rfl, ho1, hg1⟩; obtain ⟨A1, c1, rfl, hc1, -, -⟩ := ho1.slice; refine ⟨_, rfl, hK _ _ ?_⟩; clear hK K; have hz3 : W0.heap.size ≤ w3.heap.size := Nat.le_trans hzd hg1.size; have HL3w := Lib.hid (low_of_grown HLd.out (HOd.out.weak0 (Nat.le_of_lt hBa1)) (by omega) hg1); have HE1 := Lib.hid (end_bts (Hg.out.low (HLw.out.trans (HL3w.out.mono hw2)) Hg.out.lt)); have HB3 := Lib.hid (boxed_grown HBd.out HOd.out hBa1 hg1); have HK3 := Lib.hid ((KeepsOthers.drew W).trans (keep_grown HOd.out hg1)); have HN3 := Lib.hid (below_grown HOd.out hzd hg1); have HO1 := Lib.hid ho1; clear ho1 hg1)
      refine wpAnyIn_ready (rs := [5]) (by kernel_rfl) (by simp) ?_
      refine AllReadyIn.cons rfl (fun K hK => ?_) AllReadyIn.nil
      (refine stepIn_any W0.heap.size (.slice A1 M.length c1) M [13, 10] (some ⟨0, 0, none⟩) 2 2 (.tmp 29) (.tmp 30) HO1.out HE1.out (by simp) rfl rfl rfl rfl rfl (by simp; omega) hz3 ?_; intro v2 w4 ho2 hg2; rw [← HNe.out] at ho2; obtain ⟨A2, c2, rfl, hc2, -, -⟩ := ho2.slice; refine hK _ _ ?_; clear hK K; have HB4 := Lib.hid (boxed_grown HB3.out HO1.out hBa1 hg2); have c4 := HB4.out.cell; have f4 := HB4.out.frozen; have HO2 := Lib.hid ho2; have HG2 := Lib.hid hg2; clear ho2 hg2)
      refine wpAnyIn_ready (rs := [6]) (by kernel_rfl) (by simp) ?_
      refine AllReadyIn.cons rfl (fun K hK => ?_) AllReadyIn.nil
      (go_simp; refine hK _ _ ?_; clear hK K)
      (refine wpAnyIn_done (by kernel_rfl) ?_ _; refine ⟨rfl, _, _, _, _, _, _, A2, c2, rfl, Lib.hid (HB4.out.set _), Lib.hid (HO2.out.setG hBa1 _ _), Lib.hid (HK3.out.trans ((keep_grown HO1.out HG2.out).trans (KeepsOthers.setCell _ _ _))), Lib.hid (fun k hk hne => (heap_set_ne0 _ _ _ _ _ hne).trans ((below_grown HO1.out hz3 HG2.out k hk).trans (HN3.out k hk))), Lib.hid ((low_of_grown HL3w.out (HO1.out.weak0 (Nat.le_of_lt hBa1)) (by omega) HG2.out).setCell (Nat.le_refl _) _)⟩)
    case next =>
      rintro e a' W6 ⟨rfl, t26, t27, t28, t29, t30, t31, A6, c6, rfl, HB6, HO6, HK6, HN6, HL6⟩
      have hz6 : W0.heap.size ≤ W6.drew.heap.size := Nat.le_trans hz HK6.out.size
      have HB6d := Lib.hid (show Boxed W6.drew Ba 23 (.slice A6 N.length c6) from HB6.out)
      have c6d : W6.drew.cell? ⟨Ba, 0, none⟩ = some (.slice A6 N.length c6) := HB6.out.cell
      have HO6d := Lib.hid (HO6.out.low (Low.refl _ W6).drew (Nat.le_refl _))
      have HL6d := Lib.hid HL6.out.drew
      have HBx6 := Lib.hid (HBt.out W6.drew HL6d.out)
      have Hg4 := Lib.hid g4
      obtain ⟨N2, hN2⟩ : ∃ N2, N2 = N ++ xb := ⟨_, rfl⟩
      obtain ⟨N3, hN3⟩ : ∃ N3, N3 = N2 ++ [13, 10] := ⟨_, rfl⟩
      have HN2 := Lib.hid hN2
      have HN3 := Lib.hid hN3
      have HN2x := Lib.hid (show N2.length = N.length + xb.length by rw [hN2]; simp)
      have HFi := Lib.hid (show N3 = L ++ chunkB xb by rw [hN3, hN2, HNe.out, HMe.out]; simp [chunkB])
      clear hN2 hN3 g4
      gi_wp2_with fail
      refine wpIn_region_any (by kernel_rfl) ?_
      change wpAnyIn _ _ _ _ _ _ _ _ _ (World.drew _)
      refine wpAnyIn_ready (rs := [0, 1, 3]) (by kernel_rfl) (by simp) ?_
      refine AllReadyIn.cons rfl (fun K hK => ?_) ?_
      · (go_simp; refine hK _ _ ?_; clear hK K)
        refine wpAnyIn_ready (rs := [1, 3]) (by kernel_rfl) (by simp) ?_
        refine AllReadyIn.cons rfl (fun K hK => ?_) ?_
        · (go_simp; refine hK _ _ ?_; clear hK K)
          refine wpAnyIn_ready (rs := [2, 3]) (by kernel_rfl) (by simp) ?_
          refine AllReadyIn.cons rfl (fun K hK => ?_) ?_
          · (refine stepIn_any W0.heap.size (.slice A6 N.length c6) N xb A xb.length c (.tmp 32) (.tmp 33) HO6d.out HBx6.out Hg4.out rfl rfl rfl rfl rfl (by have := HNx.out; omega) hz6 ?_; intro v2 w7 ho2 hg2; rw [← HN2.out] at ho2; obtain ⟨A7, c7, rfl, hc7, -, -⟩ := ho2.slice; refine hK _ _ ?_; clear hK K; have hz7 : W0.heap.size ≤ w7.heap.size := Nat.le_trans hz6 hg2.size; have HL7 := Lib.hid (low_of_grown HL6d.out (HO6d.out.weak0 (Nat.le_of_lt hBa1)) (by omega) hg2); have HE7 := Lib.hid (end_bts (Hg.out.low (HLw.out.trans (HL7.out.mono hw2)) Hg.out.lt)); have HB7 := Lib.hid (boxed_grown HB6d.out HO6d.out hBa1 hg2); have HK7 := Lib.hid (keep_grown HO6d.out hg2); have HN7 := Lib.hid (below_grown HO6d.out hz6 hg2); have HO7 := Lib.hid ho2; clear ho2 hg2)
            refine wpAnyIn_ready (rs := [3]) (by kernel_rfl) (by simp) ?_
            refine AllReadyIn.cons rfl (fun K hK => ?_) AllReadyIn.nil
            (go_simp; refine hK _ _ ?_; clear hK K)
            refine wpAnyIn_ready (rs := [4]) (by kernel_rfl) (by simp) ?_
            refine AllReadyIn.cons rfl (fun K hK => ?_) AllReadyIn.nil
            (refine stepIn_any W0.heap.size (.slice A7 N2.length c7) N2 [13, 10] (some ⟨0, 0, none⟩) 2 2 (.tmp 34) (.tmp 35) HO7.out HE7.out (by simp) rfl rfl rfl rfl rfl (by have := HN2x.out; have := HNx.out; simp; omega) hz7 ?_; intro v2 w8 ho2 hg2; rw [← HN3.out] at ho2; obtain ⟨A8, c8, rfl, hc8, -, -⟩ := ho2.slice; refine hK _ _ ?_; clear hK K; have HB8 := Lib.hid (boxed_grown HB7.out HO7.out hBa1 hg2); have k8 := HB8.out.cell; have f8 := HB8.out.frozen; have HO8 := Lib.hid ho2; have HG8 := Lib.hid hg2; clear ho2 hg2)
            refine wpAnyIn_ready (rs := [5]) (by kernel_rfl) (by simp) ?_
            refine AllReadyIn.cons rfl (fun K hK => ?_) AllReadyIn.nil
            (go_simp; refine hK _ _ ?_; clear hK K)
            (refine wpAnyIn_done (by kernel_rfl) ?_ _; exact ⟨(HK6.out.trans ((KeepsOthers.drew W6).trans (HK7.out.trans ((keep_grown HO7.out HG8.out).trans (KeepsOthers.setCell _ _ _))))).from _, fun k hk => (heap_set_ne0 _ _ _ _ _ (by rcases hk with rfl | rfl <;> omega)).trans ((below_grown HO7.out hz7 HG8.out k (by rcases hk with rfl | rfl <;> omega)).trans ((HN7.out k (by rcases hk with rfl | rfl <;> omega)).trans (HN6.out k (by rcases hk with rfl | rfl <;> omega) (by rcases hk with rfl | rfl <;> omega)))), ⟨_, HB8.out.set _, by rw [HFl.out, ← HFi.out]; exact HO8.out.setG hBa1 _ _⟩, (low_of_grown HL7.out (HO7.out.weak0 (Nat.le_of_lt hBa1)) (by omega) HG8.out).setCell (Nat.le_refl _) _⟩)
          refine AllReadyIn.cons rfl (fun K hK => ?_) AllReadyIn.nil
          (go_simp; refine hK _ _ ?_; clear hK K)
          refine wpAnyIn_ready (rs := [2]) (by kernel_rfl) (by simp) ?_
          refine AllReadyIn.cons rfl (fun K hK => ?_) AllReadyIn.nil
          (refine stepIn_any W0.heap.size (.slice A6 N.length c6) N xb A xb.length c (.tmp 32) (.tmp 33) HO6d.out HBx6.out Hg4.out rfl rfl rfl rfl rfl (by have := HNx.out; omega) hz6 ?_; intro v2 w7 ho2 hg2; rw [← HN2.out] at ho2; obtain ⟨A7, c7, rfl, hc7, -, -⟩ := ho2.slice; refine hK _ _ ?_; clear hK K; have hz7 : W0.heap.size ≤ w7.heap.size := Nat.le_trans hz6 hg2.size; have HL7 := Lib.hid (low_of_grown HL6d.out (HO6d.out.weak0 (Nat.le_of_lt hBa1)) (by omega) hg2); have HE7 := Lib.hid (end_bts (Hg.out.low (HLw.out.trans (HL7.out.mono hw2)) Hg.out.lt)); have HB7 := Lib.hid (boxed_grown HB6d.out HO6d.out hBa1 hg2); have HK7 := Lib.hid (keep_grown HO6d.out hg2); have HN7 := Lib.hid (below_grown HO6d.out hz6 hg2); have HO7 := Lib.hid ho2; clear ho2 hg2)
          refine wpAnyIn_ready (rs := [4]) (by kernel_rfl) (by simp) ?_
          refine AllReadyIn.cons rfl (fun K hK => ?_) AllReadyIn.nil
          (refine stepIn_any W0.heap.size (.slice A7 N2.length c7) N2 [13, 10] (some ⟨0, 0, none⟩) 2 2 (.tmp 34) (.tmp 35) HO7.out HE7.out (by simp) rfl rfl rfl rfl rfl (by have := HN2x.out; have := HNx.out; simp; omega) hz7 ?_; intro v2 w8 ho2 hg2; rw [← HN3.out] at ho2; obtain ⟨A8, c8, rfl, hc8, -, -⟩ := ho2.slice; refine hK _ _ ?_; clear hK K; have HB8 := Lib.hid (boxed_grown HB7.out HO7.out hBa1 hg2); have k8 := HB8.out.cell; have f8 := HB8.out.frozen; have HO8 := Lib.hid ho2; have HG8 := Lib.hid hg2; clear ho2 hg2)
          refine wpAnyIn_ready (rs := [5]) (by kernel_rfl) (by simp) ?_
          refine AllReadyIn.cons rfl (fun K hK => ?_) AllReadyIn.nil
          (go_simp; refine hK _ _ ?_; clear hK K)
          (refine wpAnyIn_done (by kernel_rfl) ?_ _; exact ⟨(HK6.out.trans ((KeepsOthers.drew W6).trans (HK7.out.trans ((keep_grown HO7.out HG8.out).trans (KeepsOthers.setCell _ _ _))))).from _, fun k hk => (heap_set_ne0 _ _ _ _ _ (by rcases hk with rfl | rfl <;> omega)).trans ((below_grown HO7.out hz7 HG8.out k (by rcases hk with rfl | rfl <;> omega)).trans ((HN7.out k (by rcases hk with rfl | rfl <;> omega)).trans (HN6.out k (by rcases hk with rfl | rfl <;> omega) (by rcases hk with rfl | rfl <;> omega)))), ⟨_, HB8.out.set _, by rw [HFl.out, ← HFi.out]; exact HO8.out.setG hBa1 _ _⟩, (low_of_grown HL7.out (HO7.out.weak0 (Nat.le_of_lt hBa1)) (by omega) HG8.out).setCell (Nat.le_refl _) _⟩)
        refine AllReadyIn.cons rfl (fun K hK => ?_) AllReadyIn.nil
        (go_simp; refine hK _ _ ?_; clear hK K)
        refine wpAnyIn_ready (rs := [1]) (by kernel_rfl) (by simp) ?_
        refine AllReadyIn.cons rfl (fun K hK => ?_) AllReadyIn.nil
        (go_simp; refine hK _ _ ?_; clear hK K)
        refine wpAnyIn_ready (rs := [2]) (by kernel_rfl) (by simp) ?_
        refine AllReadyIn.cons rfl (fun K hK => ?_) AllReadyIn.nil
        (refine stepIn_any W0.heap.size (.slice A6 N.length c6) N xb A xb.length c (.tmp 32) (.tmp 33) HO6d.out HBx6.out Hg4.out rfl rfl rfl rfl rfl (by have := HNx.out; omega) hz6 ?_; intro v2 w7 ho2 hg2; rw [← HN2.out] at ho2; obtain ⟨A7, c7, rfl, hc7, -, -⟩ := ho2.slice; refine hK _ _ ?_; clear hK K; have hz7 : W0.heap.size ≤ w7.heap.size := Nat.le_trans hz6 hg2.size; have HL7 := Lib.hid (low_of_grown HL6d.out (HO6d.out.weak0 (Nat.le_of_lt hBa1)) (by omega) hg2); have HE7 := Lib.hid (end_bts (Hg.out.low (HLw.out.trans (HL7.out.mono hw2)) Hg.out.lt)); have HB7 := Lib.hid (boxed_grown HB6d.out HO6d.out hBa1 hg2); have HK7 := Lib.hid (keep_grown HO6d.out hg2); have HN7 := Lib.hid (below_grown HO6d.out hz6 hg2); have HO7 := Lib.hid ho2; clear ho2 hg2)
        refine wpAnyIn_ready (rs := [4]) (by kernel_rfl) (by simp) ?_
        refine AllReadyIn.cons rfl (fun K hK => ?_) AllReadyIn.nil
        (refine stepIn_any W0.heap.size (.slice A7 N2.length c7) N2 [13, 10] (some ⟨0, 0, none⟩) 2 2 (.tmp 34) (.tmp 35) HO7.out HE7.out (by simp) rfl rfl rfl rfl rfl (by have := HN2x.out; have := HNx.out; simp; omega) hz7 ?_; intro v2 w8 ho2 hg2; rw [← HN3.out] at ho2; obtain ⟨A8, c8, rfl, hc8, -, -⟩ := ho2.slice; refine hK _ _ ?_; clear hK K; have HB8 := Lib.hid (boxed_grown HB7.out HO7.out hBa1 hg2); have k8 := HB8.out.cell; have f8 := HB8.out.frozen; have HO8 := Lib.hid ho2; have HG8 := Lib.hid hg2; clear ho2 hg2)
        refine wpAnyIn_ready (rs := [5]) (by kernel_rfl) (by simp) ?_
        refine AllReadyIn.cons rfl (fun K hK => ?_) AllReadyIn.nil
        (go_simp; refine hK _ _ ?_; clear hK K)
        (refine wpAnyIn_done (by kernel_rfl) ?_ _; exact ⟨(HK6.out.trans ((KeepsOthers.drew W6).trans (HK7.out.trans ((keep_grown HO7.out HG8.out).trans (KeepsOthers.setCell _ _ _))))).from _, fun k hk => (heap_set_ne0 _ _ _ _ _ (by rcases hk with rfl | rfl <;> omega)).trans ((below_grown HO7.out hz7 HG8.out k (by rcases hk with rfl | rfl <;> omega)).trans ((HN7.out k (by rcases hk with rfl | rfl <;> omega)).trans (HN6.out k (by rcases hk with rfl | rfl <;> omega) (by rcases hk with rfl | rfl <;> omega)))), ⟨_, HB8.out.set _, by rw [HFl.out, ← HFi.out]; exact HO8.out.setG hBa1 _ _⟩, (low_of_grown HL7.out (HO7.out.weak0 (Nat.le_of_lt hBa1)) (by omega) HG8.out).setCell (Nat.le_refl _) _⟩)
      refine AllReadyIn.cons rfl (fun K hK => ?_) ?_
      · (go_simp; refine hK _ _ ?_; clear hK K)
        refine wpAnyIn_ready (rs := [0, 3]) (by kernel_rfl) (by simp) ?_
        refine AllReadyIn.cons rfl (fun K hK => ?_) ?_
        · (go_simp; refine hK _ _ ?_; clear hK K)
          refine wpAnyIn_ready (rs := [2, 3]) (by kernel_rfl) (by simp) ?_
          refine AllReadyIn.cons rfl (fun K hK => ?_) ?_
          · (refine stepIn_any W0.heap.size (.slice A6 N.length c6) N xb A xb.length c (.tmp 32) (.tmp 33) HO6d.out HBx6.out Hg4.out rfl rfl rfl rfl rfl (by have := HNx.out; omega) hz6 ?_; intro v2 w7 ho2 hg2; rw [← HN2.out] at ho2; obtain ⟨A7, c7, rfl, hc7, -, -⟩ := ho2.slice; refine hK _ _ ?_; clear hK K; have hz7 : W0.heap.size ≤ w7.heap.size := Nat.le_trans hz6 hg2.size; have HL7 := Lib.hid (low_of_grown HL6d.out (HO6d.out.weak0 (Nat.le_of_lt hBa1)) (by omega) hg2); have HE7 := Lib.hid (end_bts (Hg.out.low (HLw.out.trans (HL7.out.mono hw2)) Hg.out.lt)); have HB7 := Lib.hid (boxed_grown HB6d.out HO6d.out hBa1 hg2); have HK7 := Lib.hid (keep_grown HO6d.out hg2); have HN7 := Lib.hid (below_grown HO6d.out hz6 hg2); have HO7 := Lib.hid ho2; clear ho2 hg2)
            refine wpAnyIn_ready (rs := [3]) (by kernel_rfl) (by simp) ?_
            refine AllReadyIn.cons rfl (fun K hK => ?_) AllReadyIn.nil
            (go_simp; refine hK _ _ ?_; clear hK K)
            refine wpAnyIn_ready (rs := [4]) (by kernel_rfl) (by simp) ?_
            refine AllReadyIn.cons rfl (fun K hK => ?_) AllReadyIn.nil
            (refine stepIn_any W0.heap.size (.slice A7 N2.length c7) N2 [13, 10] (some ⟨0, 0, none⟩) 2 2 (.tmp 34) (.tmp 35) HO7.out HE7.out (by simp) rfl rfl rfl rfl rfl (by have := HN2x.out; have := HNx.out; simp; omega) hz7 ?_; intro v2 w8 ho2 hg2; rw [← HN3.out] at ho2; obtain ⟨A8, c8, rfl, hc8, -, -⟩ := ho2.slice; refine hK _ _ ?_; clear hK K; have HB8 := Lib.hid (boxed_grown HB7.out HO7.out hBa1 hg2); have k8 := HB8.out.cell; have f8 := HB8.out.frozen; have HO8 := Lib.hid ho2; have HG8 := Lib.hid hg2; clear ho2 hg2)
            refine wpAnyIn_ready (rs := [5]) (by kernel_rfl) (by simp) ?_
            refine AllReadyIn.cons rfl (fun K hK => ?_) AllReadyIn.nil
            (go_simp; refine hK _ _ ?_; clear hK K)
            (refine wpAnyIn_done (by kernel_rfl) ?_ _; exact ⟨(HK6.out.trans ((KeepsOthers.drew W6).trans (HK7.out.trans ((keep_grown HO7.out HG8.out).trans (KeepsOthers.setCell _ _ _))))).from _, fun k hk => (heap_set_ne0 _ _ _ _ _ (by rcases hk with rfl | rfl <;> omega)).trans ((below_grown HO7.out hz7 HG8.out k (by rcases hk with rfl | rfl <;> omega)).trans ((HN7.out k (by rcases hk with rfl | rfl <;> omega)).trans (HN6.out k (by rcases hk with rfl | rfl <;> omega) (by rcases hk with rfl | rfl <;> omega)))), ⟨_, HB8.out.set _, by rw [HFl.out, ← HFi.out]; exact HO8.out.setG hBa1 _ _⟩, (low_of_grown HL7.out (HO7.out.weak0 (Nat.le_of_lt hBa1)) (by omega) HG8.out).setCell (Nat.le_refl _) _⟩)
          refine AllReadyIn.cons rfl (fun K hK => ?_) AllReadyIn.nil
          (go_simp; refine hK _ _ ?_; clear hK K)
          refine wpAnyIn_ready (rs := [2]) (by kernel_rfl) (by simp) ?_
          refine AllReadyIn.cons rfl (fun K hK => ?_) AllReadyIn.nil
          (refine stepIn_any W0.heap.size (.slice A6 N.length c6) N xb A xb.length c (.tmp 32) (.tmp 33) HO6d.out HBx6.out Hg4.out rfl rfl rfl rfl rfl (by have := HNx.out; omega) hz6 ?_; intro v2 w7 ho2 hg2; rw [← HN2.out] at ho2; obtain ⟨A7, c7, rfl, hc7, -, -⟩ := ho2.slice; refine hK _ _ ?_; clear hK K; have hz7 : W0.heap.size ≤ w7.heap.size := Nat.le_trans hz6 hg2.size; have HL7 := Lib.hid (low_of_grown HL6d.out (HO6d.out.weak0 (Nat.le_of_lt hBa1)) (by omega) hg2); have HE7 := Lib.hid (end_bts (Hg.out.low (HLw.out.trans (HL7.out.mono hw2)) Hg.out.lt)); have HB7 := Lib.hid (boxed_grown HB6d.out HO6d.out hBa1 hg2); have HK7 := Lib.hid (keep_grown HO6d.out hg2); have HN7 := Lib.hid (below_grown HO6d.out hz6 hg2); have HO7 := Lib.hid ho2; clear ho2 hg2)
          refine wpAnyIn_ready (rs := [4]) (by kernel_rfl) (by simp) ?_
          refine AllReadyIn.cons rfl (fun K hK => ?_) AllReadyIn.nil
          (refine stepIn_any W0.heap.size (.slice A7 N2.length c7) N2 [13, 10] (some ⟨0, 0, none⟩) 2 2 (.tmp 34) (.tmp 35) HO7.out HE7.out (by simp) rfl rfl rfl rfl rfl (by have := HN2x.out; have := HNx.out; simp; omega) hz7 ?_; intro v2 w8 ho2 hg2; rw [← HN3.out] at ho2; obtain ⟨A8, c8, rfl, hc8, -, -⟩ := ho2.slice; refine hK _ _ ?_; clear hK K; have HB8 := Lib.hid (boxed_grown HB7.out HO7.out hBa1 hg2); have k8 := HB8.out.cell; have f8 := HB8.out.frozen; have HO8 := Lib.hid ho2; have HG8 := Lib.hid hg2; clear ho2 hg2)
          refine wpAnyIn_ready (rs := [5]) (by kernel_rfl) (by simp) ?_
          refine AllReadyIn.cons rfl (fun K hK => ?_) AllReadyIn.nil
          (go_simp; refine hK _ _ ?_; clear hK K)
          (refine wpAnyIn_done (by kernel_rfl) ?_ _; exact ⟨(HK6.out.trans ((KeepsOthers.drew W6).trans (HK7.out.trans ((keep_grown HO7.out HG8.out).trans (KeepsOthers.setCell _ _ _))))).from _, fun k hk => (heap_set_ne0 _ _ _ _ _ (by rcases hk with rfl | rfl <;> omega)).trans ((below_grown HO7.out hz7 HG8.out k (by rcases hk with rfl | rfl <;> omega)).trans ((HN7.out k (by rcases hk with rfl | rfl <;> omega)).trans (HN6.out k (by rcases hk with rfl | rfl <;> omega) (by rcases hk with rfl | rfl <;> omega)))), ⟨_, HB8.out.set _, by rw [HFl.out, ← HFi.out]; exact HO8.out.setG hBa1 _ _⟩, (low_of_grown HL7.out (HO7.out.weak0 (Nat.le_of_lt hBa1)) (by omega) HG8.out).setCell (Nat.le_refl _) _⟩)
        refine AllReadyIn.cons rfl (fun K hK => ?_) AllReadyIn.nil
        (go_simp; refine hK _ _ ?_; clear hK K)
        refine wpAnyIn_ready (rs := [0]) (by kernel_rfl) (by simp) ?_
        refine AllReadyIn.cons rfl (fun K hK => ?_) AllReadyIn.nil
        (go_simp; refine hK _ _ ?_; clear hK K)
        refine wpAnyIn_ready (rs := [2]) (by kernel_rfl) (by simp) ?_
        refine AllReadyIn.cons rfl (fun K hK => ?_) AllReadyIn.nil
        (refine stepIn_any W0.heap.size (.slice A6 N.length c6) N xb A xb.length c (.tmp 32) (.tmp 33) HO6d.out HBx6.out Hg4.out rfl rfl rfl rfl rfl (by have := HNx.out; omega) hz6 ?_; intro v2 w7 ho2 hg2; rw [← HN2.out] at ho2; obtain ⟨A7, c7, rfl, hc7, -, -⟩ := ho2.slice; refine hK _ _ ?_; clear hK K; have hz7 : W0.heap.size ≤ w7.heap.size := Nat.le_trans hz6 hg2.size; have HL7 := Lib.hid (low_of_grown HL6d.out (HO6d.out.weak0 (Nat.le_of_lt hBa1)) (by omega) hg2); have HE7 := Lib.hid (end_bts (Hg.out.low (HLw.out.trans (HL7.out.mono hw2)) Hg.out.lt)); have HB7 := Lib.hid (boxed_grown HB6d.out HO6d.out hBa1 hg2); have HK7 := Lib.hid (keep_grown HO6d.out hg2); have HN7 := Lib.hid (below_grown HO6d.out hz6 hg2); have HO7 := Lib.hid ho2; clear ho2 hg2)
        refine wpAnyIn_ready (rs := [4]) (by kernel_rfl) (by simp) ?_
        refine AllReadyIn.cons rfl (fun K hK => ?_) AllReadyIn.nil
        (refine stepIn_any W0.heap.size (.slice A7 N2.length c7) N2 [13, 10] (some ⟨0, 0, none⟩) 2 2 (.tmp 34) (.tmp 35) HO7.out HE7.out (by simp) rfl rfl rfl rfl rfl (by have := HN2x.out; have := HNx.out; simp; omega) hz7 ?_; intro v2 w8 ho2 hg2; rw [← HN3.out] at ho2; obtain ⟨A8, c8, rfl, hc8, -, -⟩ := ho2.slice; refine hK _ _ ?_; clear hK K; have HB8 := Lib.hid (boxed_grown HB7.out HO7.out hBa1 hg2); have k8 := HB8.out.cell; have f8 := HB8.out.frozen; have HO8 := Lib.hid ho2; have HG8 := Lib.hid hg2; clear ho2 hg2)
        refine wpAnyIn_ready (rs := [5]) (by kernel_rfl) (by simp) ?_
        refine AllReadyIn.cons rfl (fun K hK => ?_) AllReadyIn.nil
        (go_simp; refine hK _ _ ?_; clear hK K)
        (refine wpAnyIn_done (by kernel_rfl) ?_ _; exact ⟨(HK6.out.trans ((KeepsOthers.drew W6).trans (HK7.out.trans ((keep_grown HO7.out HG8.out).trans (KeepsOthers.setCell _ _ _))))).from _, fun k hk => (heap_set_ne0 _ _ _ _ _ (by rcases hk with rfl | rfl <;> omega)).trans ((below_grown HO7.out hz7 HG8.out k (by rcases hk with rfl | rfl <;> omega)).trans ((HN7.out k (by rcases hk with rfl | rfl <;> omega)).trans (HN6.out k (by rcases hk with rfl | rfl <;> omega) (by rcases hk with rfl | rfl <;> omega)))), ⟨_, HB8.out.set _, by rw [HFl.out, ← HFi.out]; exact HO8.out.setG hBa1 _ _⟩, (low_of_grown HL7.out (HO7.out.weak0 (Nat.le_of_lt hBa1)) (by omega) HG8.out).setCell (Nat.le_refl _) _⟩)
      refine AllReadyIn.cons rfl (fun K hK => ?_) AllReadyIn.nil
      (go_simp; refine hK _ _ ?_; clear hK K)
      refine wpAnyIn_ready (rs := [0, 1]) (by kernel_rfl) (by simp) ?_
      refine AllReadyIn.cons rfl (fun K hK => ?_) ?_
      · (go_simp; refine hK _ _ ?_; clear hK K)
        refine wpAnyIn_ready (rs := [1]) (by kernel_rfl) (by simp) ?_
        refine AllReadyIn.cons rfl (fun K hK => ?_) AllReadyIn.nil
        (go_simp; refine hK _ _ ?_; clear hK K)
        refine wpAnyIn_ready (rs := [2]) (by kernel_rfl) (by simp) ?_
        refine AllReadyIn.cons rfl (fun K hK => ?_) AllReadyIn.nil
        (refine stepIn_any W0.heap.size (.slice A6 N.length c6) N xb A xb.length c (.tmp 32) (.tmp 33) HO6d.out HBx6.out Hg4.out rfl rfl rfl rfl rfl (by have := HNx.out; omega) hz6 ?_; intro v2 w7 ho2 hg2; rw [← HN2.out] at ho2; obtain ⟨A7, c7, rfl, hc7, -, -⟩ := ho2.slice; refine hK _ _ ?_; clear hK K; have hz7 : W0.heap.size ≤ w7.heap.size := Nat.le_trans hz6 hg2.size; have HL7 := Lib.hid (low_of_grown HL6d.out (HO6d.out.weak0 (Nat.le_of_lt hBa1)) (by omega) hg2); have HE7 := Lib.hid (end_bts (Hg.out.low (HLw.out.trans (HL7.out.mono hw2)) Hg.out.lt)); have HB7 := Lib.hid (boxed_grown HB6d.out HO6d.out hBa1 hg2); have HK7 := Lib.hid (keep_grown HO6d.out hg2); have HN7 := Lib.hid (below_grown HO6d.out hz6 hg2); have HO7 := Lib.hid ho2; clear ho2 hg2)
        refine wpAnyIn_ready (rs := [4]) (by kernel_rfl) (by simp) ?_
        refine AllReadyIn.cons rfl (fun K hK => ?_) AllReadyIn.nil
        (refine stepIn_any W0.heap.size (.slice A7 N2.length c7) N2 [13, 10] (some ⟨0, 0, none⟩) 2 2 (.tmp 34) (.tmp 35) HO7.out HE7.out (by simp) rfl rfl rfl rfl rfl (by have := HN2x.out; have := HNx.out; simp; omega) hz7 ?_; intro v2 w8 ho2 hg2; rw [← HN3.out] at ho2; obtain ⟨A8, c8, rfl, hc8, -, -⟩ := ho2.slice; refine hK _ _ ?_; clear hK K; have HB8 := Lib.hid (boxed_grown HB7.out HO7.out hBa1 hg2); have k8 := HB8.out.cell; have f8 := HB8.out.frozen; have HO8 := Lib.hid ho2; have HG8 := Lib.hid hg2; clear ho2 hg2)
        refine wpAnyIn_ready (rs := [5]) (by kernel_rfl) (by simp) ?_
        refine AllReadyIn.cons rfl (fun K hK => ?_) AllReadyIn.nil
        (go_simp; refine hK _ _ ?_; clear hK K)
        (refine wpAnyIn_done (by kernel_rfl) ?_ _; exact ⟨(HK6.out.trans ((KeepsOthers.drew W6).trans (HK7.out.trans ((keep_grown HO7.out HG8.out).trans (KeepsOthers.setCell _ _ _))))).from _, fun k hk => (heap_set_ne0 _ _ _ _ _ (by rcases hk with rfl | rfl <;> omega)).trans ((below_grown HO7.out hz7 HG8.out k (by rcases hk with rfl | rfl <;> omega)).trans ((HN7.out k (by rcases hk with rfl | rfl <;> omega)).trans (HN6.out k (by rcases hk with rfl | rfl <;> omega) (by rcases hk with rfl | rfl <;> omega)))), ⟨_, HB8.out.set _, by rw [HFl.out, ← HFi.out]; exact HO8.out.setG hBa1 _ _⟩, (low_of_grown HL7.out (HO7.out.weak0 (Nat.le_of_lt hBa1)) (by omega) HG8.out).setCell (Nat.le_refl _) _⟩)
      refine AllReadyIn.cons rfl (fun K hK => ?_) AllReadyIn.nil
      (go_simp; refine hK _ _ ?_; clear hK K)
      refine wpAnyIn_ready (rs := [0]) (by kernel_rfl) (by simp) ?_
      refine AllReadyIn.cons rfl (fun K hK => ?_) AllReadyIn.nil
      (go_simp; refine hK _ _ ?_; clear hK K)
      refine wpAnyIn_ready (rs := [2]) (by kernel_rfl) (by simp) ?_
      refine AllReadyIn.cons rfl (fun K hK => ?_) AllReadyIn.nil
      (refine stepIn_any W0.heap.size (.slice A6 N.length c6) N xb A xb.length c (.tmp 32) (.tmp 33) HO6d.out HBx6.out Hg4.out rfl rfl rfl rfl rfl (by have := HNx.out; omega) hz6 ?_; intro v2 w7 ho2 hg2; rw [← HN2.out] at ho2; obtain ⟨A7, c7, rfl, hc7, -, -⟩ := ho2.slice; refine hK _ _ ?_; clear hK K; have hz7 : W0.heap.size ≤ w7.heap.size := Nat.le_trans hz6 hg2.size; have HL7 := Lib.hid (low_of_grown HL6d.out (HO6d.out.weak0 (Nat.le_of_lt hBa1)) (by omega) hg2); have HE7 := Lib.hid (end_bts (Hg.out.low (HLw.out.trans (HL7.out.mono hw2)) Hg.out.lt)); have HB7 := Lib.hid (boxed_grown HB6d.out HO6d.out hBa1 hg2); have HK7 := Lib.hid (keep_grown HO6d.out hg2); have HN7 := Lib.hid (below_grown HO6d.out hz6 hg2); have HO7 := Lib.hid ho2; clear ho2 hg2)
      refine wpAnyIn_ready (rs := [4]) (by kernel_rfl) (by simp) ?_
      refine AllReadyIn.cons rfl (fun K hK => ?_) AllReadyIn.nil
      (refine stepIn_any W0.heap.size (.slice A7 N2.length c7) N2 [13, 10] (some ⟨0, 0, none⟩) 2 2 (.tmp 34) (.tmp 35) HO7.out HE7.out (by simp) rfl rfl rfl rfl rfl (by have := HN2x.out; have := HNx.out; simp; omega) hz7 ?_; intro v2 w8 ho2 hg2; rw [← HN3.out] at ho2; obtain ⟨A8, c8, rfl, hc8, -, -⟩ := ho2.slice; refine hK _ _ ?_; clear hK K; have HB8 := Lib.hid (boxed_grown HB7.out HO7.out hBa1 hg2); have k8 := HB8.out.cell; have f8 := HB8.out.frozen; have HO8 := Lib.hid ho2; have HG8 := Lib.hid hg2; clear ho2 hg2)
      refine wpAnyIn_ready (rs := [5]) (by kernel_rfl) (by simp) ?_
      refine AllReadyIn.cons rfl (fun K hK => ?_) AllReadyIn.nil
      (go_simp; refine hK _ _ ?_; clear hK K)
      (refine wpAnyIn_done (by kernel_rfl) ?_ _; exact ⟨(HK6.out.trans ((KeepsOthers.drew W6).trans (HK7.out.trans ((keep_grown HO7.out HG8.out).trans (KeepsOthers.setCell _ _ _))))).from _, fun k hk => (heap_set_ne0 _ _ _ _ _ (by rcases hk with rfl | rfl <;> omega)).trans ((below_grown HO7.out hz7 HG8.out k (by rcases hk with rfl | rfl <;> omega)).trans ((HN7.out k (by rcases hk with rfl | rfl <;> omega)).trans (HN6.out k (by rcases hk with rfl | rfl <;> omega) (by rcases hk with rfl | rfl <;> omega)))), ⟨_, HB8.out.set _, by rw [HFl.out, ← HFi.out]; exact HO8.out.setG hBa1 _ _⟩, (low_of_grown HL7.out (HO7.out.weak0 (Nat.le_of_lt hBa1)) (by omega) HG8.out).setCell (Nat.le_refl _) _⟩)
  case done =>
    rintro D W hD ⟨⟨v, h1, h2⟩, h3⟩ hK
    rw [pcs_bytes] at h2
    obtain ⟨A2, c2, rfl, hc2, hB2, hA2⟩ := h2.slice
    have cA := h1.cell
    have hR := HR1.out.low h3 hRl
    obtain ⟨q0, q1, q2, q3, q4⟩ := hR.five
    have HLW := Lib.hid (hLw.trans (h3.mono hwl))
    have hcod : (⟨#[84, 114, 97, 110, 115, 102, 101, 114, 45, 69, 110, 99, 111, 100, 105, 110, 103, 58, 32, 99, 104, 117, 110, 107, 101, 100]⟩ : ByteArray) = bs codLine := by kernel_rfl
    have HCo := Lib.hid hcod
    have HK := Lib.hid hK
    have HB2 := Lib.hid hB2
    have HA2 := Lib.hid (fun (ad : Addr) (e : A2 = some ad) => (hA2 ad e).2.1)
    have hDl : D < W.heap.size := (Array.getElem?_eq_some_iff.1 hK).1
    clear hcod hK hB2 hA2 h2 h1 h3 hR bAll bB bS hbts
    gi_wp2_with fail
    rw [HCo.out]
    refine ⟨trivial, ?_⟩
    refine (callsIn_wide.2 (H65.out W HLW.out A2 c2 _ HB2.out HA2.out (by have := Hcl.out; have := Hb.out; omega))).mono ?_
    rintro e w3 ⟨v3, rfl, ho3, hl3⟩
    rw [← Hcm.out] at ho3
    obtain ⟨A3, c3, rfl, hc3, hB3, hA3⟩ := ho3.slice
    have HO3 := Lib.hid ho3
    have hK3 : w3.heap[D]? = some (.deferred (some [])) := (hl3.out.block D hDl).trans HK.out
    have HL3 := Lib.hid (HLW.out.trans (hl3.mono HLW.out.size))
    have hDw : w.heap.size ≤ D := by omega
    have HLf := Lib.hid (show Low w.heap.size w (w3.putObj D (.deferred none)) from ⟨HL3.out.out.grown (grownBy_putObj' w3 D (.deferred none)) HL3.out.size (fun k e => by cases e; exact hDw)⟩)
    have HOf := Lib.hid (show BOwn (w3.putObj D (.deferred none)) w.heap.size (.slice A3 cM.length c3) cM from
      (ho3.weak0 HLW.out.size).same fun k hk => (grownBy_putObj' w3 D (.deferred none)).block k (ho3.out.lt k hk).2 (fun e => by
        obtain ⟨cs, t, p, hcs⟩ := ho3.cells k hk
        have e2 : k = D := by injection e
        rw [e2, hK3] at hcs
        cases hcs))
    clear ho3 hl3 hc3 hB3 hA3 q0 q1 q2 q3 q4 cA
    by_cases hbig : 8192 < cM.length
    · have d3 : decide ((8192 : Int) < (cM.length : Int)) = true := by simp; omega
      gi_wp2
      refine ⟨by simp, .inl ⟨_, _, rfl, run_takeDeferred hK3, ?_⟩⟩
      refine ⟨.tuple #[.slice none 0 0, .int .i64 5], ?_, ?_, HLf.out⟩
      · simp [results, Tryz.results32, go_sem]
      · unfold ChTold; rw [if_pos hbig]
    · have d3 : decide ((8192 : Int) < (cM.length : Int)) = false := by simp; omega
      gi_wp2
      refine ⟨by simp, .inl ⟨_, _, rfl, run_takeDeferred hK3, ?_⟩⟩
      refine ⟨.tuple #[.slice A3 cM.length c3, .int .i64 0], ?_, ?_, HLf.out⟩
      · simp [results, Tryz.results32, go_sem]
      · unfold ChTold; rw [if_neg hbig]; exact ⟨_, rfl, HOf.out⟩
end Go.Proofs.YtcognpibphpadaaGreatDoor
