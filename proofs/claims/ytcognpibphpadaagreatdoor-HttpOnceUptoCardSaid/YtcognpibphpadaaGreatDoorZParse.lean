/- http.Parse. -/
import Derived.Test.YtcognpibphpadaaGreatDoorZLast
set_option linter.unusedVariables false
set_option linter.unusedSimpArgs false
namespace Go.Proofs.YtcognpibphpadaaGreatDoor
open Go.RowKit

/-- What Parse comes to. -/
def parseF (l : B) : Except Int Msg :=
  if 8192 < l.length then .error 5 else match firstAt l 0 with
    | .error c => .error c
    | .ok (me, pa, st, a) => match headsF l 21 a [] with
      | .error c => .error c
      | .ok (raw, a1) => match frameF raw with
        | .error c => .error c
        | .ok (size, heads) => match bodyAll l size a1 with
          | .error c => .error c
          | .ok (body, a2) => match lastF l a2 ⟨me, pa, st, heads, body⟩ with
            | .error c => .error c
            | .ok _ => .ok ⟨me, pa, st, heads, body⟩

def PTold (w w' : World) (e : Ending) : Except Int Msg → Prop
  | .ok m => (∃ hA hc bA bc, e = .returned (.tuple #[.agg #[.string (bs m.me), .string (bs m.pa), .int .i64 m.st, .slice hA m.hs.length hc, .slice bA m.body.length bc], .int .i64 0]) ∧ m.hs.length ≤ hc ∧ m.body.length ≤ bc ∧ Hds w' hA m.hs ∧ Bts w' bA m.body ∧
      (∀ ad, hA = some ad → w.heap.size ≤ ad.block ∧ ad.block < w'.heap.size) ∧ (∀ ad, bA = some ad → w.heap.size ≤ ad.block ∧ ad.block < w'.heap.size)) ∧ Low w.heap.size w w'
  | .error c => e = .returned (.tuple #[.agg #[.string (bs []), .string (bs []), .int .i64 0, .slice none 0 0, .slice none 0 0], .int .i64 c]) ∧ Low w.heap.size w w'

def fn (k : Nat) (g : Nat) : Value := .func (.func k) #[.pointer (some ⟨g, 0, none⟩)] #[]
def steps (g : Nat) : Value := .agg #[.func (.func 60) #[.pointer (some ⟨g, 0, none⟩)] #[], .func (.func 61) #[.pointer (some ⟨g, 0, none⟩)] #[], .func (.func 62) #[.pointer (some ⟨g, 0, none⟩)] #[], .func (.func 63) #[.pointer (some ⟨g, 0, none⟩)] #[], .func (.func 64) #[.pointer (some ⟨g, 0, none⟩)] #[]]
theorem size29 : (Tryz.prog.info? 29).map (·.size) = some 5 := by kernel_rfl
theorem firstF_len {s m p : B} {n : Int} (h : firstF s = some (m, p, n)) : p.length ≤ s.length := by
  unfold firstF at h
  split at h
  · split at h
    · split at h
      · cases h; simp
      · cases h
    · cases h
  · split at h
    · next a b c e =>
      split at h
      · cases h
        exact splitSp_mem s _ (by rw [e]; simp)
      · cases h
    · cases h
theorem lineAt_pos {l : B} {a : Nat} {t : B} {x : Nat} (h : lineAt l a = .ok (t, x)) : 0 < l.length := by
  rcases Nat.eq_zero_or_pos l.length with e | e
  · have : l = [] := List.length_eq_zero_iff.1 e
    subst this
    unfold lineAt at h
    simp [scan] at h
  · exact e
theorem firstAt_ok {l me pa : B} {st : Int} {a0 a : Nat} (h : firstAt l a0 = .ok (me, pa, st, a)) : a ≤ l.length ∧ 0 < l.length ∧ pa.length ≤ l.length := by
  unfold firstAt at h
  split at h
  · cases h
  · next e =>
    split at h
    · cases h
    · next e2 =>
      cases h
      exact ⟨lineAt_at e, lineAt_pos e, Nat.le_trans (firstF_len e2) (lineAt_len e)⟩
theorem lineH_len {s : B} {h : Hd} (e : lineH s = some h) : h.1.length ≤ s.length ∧ h.2.length ≤ s.length := by
  unfold lineH at e
  split at e
  · cases e
    have h1 := cut_len s [58]
    have h2 := trimS_len (Lib.cut s [58]).2.1 [32, 9]
    exact ⟨h1.1, Nat.le_trans h2 h1.2⟩
  · cases e
theorem headsF_ok (l : B) : ∀ (n a : Nat) (raw raw' : List Hd) (a' : Nat), headsF l n a raw = .ok (raw', a') → raw.length ≤ 20 → (∀ h ∈ raw, h.2.length ≤ l.length) → a' ≤ l.length ∧ raw'.length ≤ 20 ∧ ∀ h ∈ raw', h.2.length ≤ l.length
  | 0, _, _, _, _, h, _, _ => by cases h
  | n + 1, a, raw, raw', a', h, h20, hv => by
    rw [headsF] at h
    split at h
    · cases h
    · next e =>
      split at h
      · cases h
        exact ⟨lineAt_at e, h20, hv⟩
      · split at h
        · cases h
        · split at h
          · cases h
          · next e2 =>
            refine headsF_ok l n _ _ _ _ h (by simp; omega) ?_
            intro x hx
            rcases List.mem_append.1 hx with hx | hx
            · exact hv x hx
            · simp at hx
              subst hx
              exact Nat.le_trans (lineH_len e2).2 (lineAt_len e)
theorem frame_inv : ∀ (raw : List Hd) (f : FS), (f.size = -1 ∨ 0 ≤ f.size) → ((raw.foldl frameStep f).size = -1 ∨ 0 ≤ (raw.foldl frameStep f).size) ∧ (∀ h ∈ (raw.foldl frameStep f).heads, h ∈ f.heads ∨ h ∈ raw) ∧ (raw.foldl frameStep f).heads.length ≤ f.heads.length + raw.length
  | [], f, h => ⟨h, fun x hx => .inl hx, by simp⟩
  | x :: t, f, h => by
    have hs : ((frameStep f x).size = -1 ∨ 0 ≤ (frameStep f x).size) ∧ (∀ h ∈ (frameStep f x).heads, h ∈ f.heads ∨ h = x) ∧ (frameStep f x).heads.length ≤ f.heads.length + 1 := by
      unfold frameStep
      split
      · refine ⟨?_, fun h hh => .inl hh, by simp⟩
        cases e : digF 10 x.2 with
        | none => simp
        | some n => right; simpa using (digF_bd (Or.inl rfl) e).1
      · split
        · exact ⟨.inl rfl, fun h hh => .inl hh, by simp⟩
        · split
          · refine ⟨h, fun y hy => ?_, by simp⟩
            rcases List.mem_append.1 hy with hy | hy
            · exact .inl hy
            · exact .inr (by simpa using hy)
          · exact ⟨h, fun h hh => .inl hh, by simp⟩
    obtain ⟨h1, h2, h3⟩ := frame_inv t (frameStep f x) hs.1
    rw [List.foldl_cons]
    refine ⟨h1, fun y hy => ?_, by simp; omega⟩
    rcases h2 y hy with hy | hy
    · rcases hs.2.1 y hy with hy | hy
      · exact .inl hy
      · exact .inr (by simp [hy])
    · exact .inr (by simp [hy])
theorem frameF_ok {raw heads : List Hd} {size : Int} (h : frameF raw = .ok (size, heads)) : (size = -1 ∨ 0 ≤ size ∧ size ≤ 2000) ∧ (∀ h ∈ heads, h ∈ raw) ∧ heads.length ≤ raw.length := by
  obtain ⟨h1, h2, h3⟩ := frame_inv raw ⟨0, true, 0, []⟩ (.inr (Int.le_refl _))
  unfold frameF frameAll at h
  split at h
  · cases h
  · split at h
    · cases h
    · split at h
      · cases h
      · next h4 =>
        cases h
        refine ⟨?_, fun x hx => ?_, by simpa using h3⟩
        · rcases h1 with e | e
          · exact .inl e
          · exact .inr ⟨e, by omega⟩
        · rcases h2 x hx with e | e
          · cases e
          · exact e
theorem bodyF_ok (l : B) : ∀ (k a : Nat) (body body' : B) (a' : Nat), bodyF l k a body = .ok (body', a') → body'.length ≤ 2000 ∧ a' ≤ l.length
  | 0, _, _, _, _, h => by cases h
  | k + 1, a, body, body', a', h => by
    rw [bodyF] at h
    split at h
    · cases h
    · split at h
      · cases h
      · split at h
        · cases h
        · next h2 =>
          split at h
          · cases h
          · split at h
            · cases h
            · next e =>
              split at h
              · cases h
                refine ⟨?_, endsAt_at e⟩
                rw [List.length_append, List.length_take]; omega
              · exact bodyF_ok l k _ _ _ _ h
theorem bodyAll_ok {l body : B} {size : Int} {a a' : Nat} (h : bodyAll l size a = .ok (body, a')) : body.length ≤ l.length + 2000 ∧ a' ≤ l.length := by
  unfold bodyAll at h
  split at h
  · have := bodyF_ok l _ _ _ _ _ h; omega
  · split at h
    · cases h
    · cases h
      rw [List.length_take, List.length_drop]; omega

structure ZRow (w : World) (R : Nat) (me pa : ByteArray) (st : Int) (hv bv : Value) : Prop where
  out : w.heap[R]? = some (.cells #[.string me, .string pa, .int .i64 st, hv, bv] 29 (0, 0))
theorem ZRow.cell {w : World} {R : Nat} {me pa : ByteArray} {st : Int} {hv bv : Value} (h : ZRow w R me pa st hv bv) (k : Nat) : w.cell? ⟨R, k, none⟩ = (#[Value.string me, Value.string pa, Value.int .i64 st, hv, bv] : Array Value)[k]? := cell_of_row w R k _ _ _ h.out
theorem ZRow.f {w : World} {R : Nat} {me pa : ByteArray} {st : Int} {hv bv : Value} (h : ZRow w R me pa st hv bv) (k : Nat) : w.frozen? ⟨R, k, none⟩ = false := frozen_of_row w R k _ _ h.out
theorem ZRow.low {w w1 : World} {R b : Nat} {me pa : ByteArray} {st : Int} {hv bv : Value} (h : ZRow w R me pa st hv bv) (hl : Low b w w1) (hb : R < b) : ZRow w1 R me pa st hv bv := ⟨(hl.out.block R hb).trans h.out⟩
theorem ZRow.to {w : World} {R : Nat} {me pa me' pa' : ByteArray} {st st' : Int} {hv bv hv' bv' : Value} (h : ZRow w R me pa st hv bv) :
    ZRow (((((w.setCell ⟨R, 0, none⟩ (.string me')).setCell ⟨R, 1, none⟩ (.string pa')).setCell ⟨R, 2, none⟩ (.int .i64 st')).setCell ⟨R, 3, none⟩ hv').setCell ⟨R, 4, none⟩ bv') R me' pa' st' hv' bv' := by
  have h0 := h.out
  have h1 := heap_setCell_same w R 0 _ _ (.string me') h0
  have h2 := heap_setCell_same _ R 1 _ _ (.string pa') h1
  have h3 := heap_setCell_same _ R 2 _ _ (.int .i64 st') h2
  have h4 := heap_setCell_same _ R 3 _ _ hv' h3
  have h5 := heap_setCell_same _ R 4 _ _ bv' h4
  exact ⟨h5⟩
theorem ZRow.low5 {w w1 : World} {R : Nat} (h : Low R w w1) (a b c d e : Value) : Low R w (((((w1.setCell ⟨R, 0, none⟩ a).setCell ⟨R, 1, none⟩ b).setCell ⟨R, 2, none⟩ c).setCell ⟨R, 3, none⟩ d).setCell ⟨R, 4, none⟩ e) :=
  ((((h.setCell (Nat.le_refl _) _).setCell (Nat.le_refl _) _).setCell (Nat.le_refl _) _).setCell (Nat.le_refl _) _).setCell (Nat.le_refl _) _

theorem World.heap_drew_row {w : World} {R : Nat} {o : Obj} (h : w.heap[R]? = some o) : w.drew.heap[R]? = some o := h

set_option maxHeartbeats 8000000 in
set_option maxRecDepth 100000 in
theorem parse_calls (A : Option Addr) (l : B) (c : Nat) (w : World) (hl : Bts w A l) (hc : l.length ≤ c) (hA : ∀ ad, A = some ad → ad.block < w.heap.size) (hg : Glob w) :
    Calls Tryz.prog 28 #[.slice A l.length c] w fun e w' => PTold w w' e (parseF l) := by
  go_enter Tryz.func28, Tryz.ntmps28
  by_cases hbig : 8192 < l.length
  · have hp : parseF l = .error 5 := by unfold parseF; rw [if_pos hbig]
    have db : decide ((8192 : Int) < (l.length : Int)) = true := by simp; omega
    have HP := Lib.hid hp
    clear hp hbig
    go_wp2
    refine bodyPost_ret (results_row_tmp rfl _ _ w.heap.size 29 _ (0, 0) _ rfl (heap_alloc_new w _) Tryz.underlying29 rfl size29) rfl ?_
    rw [HP.out]
    exact ⟨rfl, (Low.refl _ _).alloc (Nat.le_refl _) _⟩
  · have db : decide ((8192 : Int) < (l.length : Int)) = false := by simp; omega
    have hp : parseF l = match firstAt l 0 with
      | .error c => .error c
      | .ok (me, pa, st, a) => match headsF l 21 a [] with
        | .error c => .error c
        | .ok (raw, a1) => match frameF raw with
          | .error c => .error c
          | .ok (size, heads) => match bodyAll l size a1 with
            | .error c => .error c
            | .ok (body, a2) => match lastF l a2 ⟨me, pa, st, heads, body⟩ with
              | .error c => .error c
              | .ok _ => .ok ⟨me, pa, st, heads, body⟩ := by unfold parseF; rw [if_neg hbig]
    have HP := Lib.hid hp
    have i0 : ∀ W : World, (Instr.index 106 (steps (w.heap.size + 1)) (.int .i64 0)).run Tryz.prog W = .ok (fn 60 (w.heap.size + 1)) W := fun W => by kernel_rfl
    have i1 : ∀ W : World, (Instr.index 106 (steps (w.heap.size + 1)) (.int .i64 1)).run Tryz.prog W = .ok (fn 61 (w.heap.size + 1)) W := fun W => by kernel_rfl
    have i2 : ∀ W : World, (Instr.index 106 (steps (w.heap.size + 1)) (.int .i64 2)).run Tryz.prog W = .ok (fn 62 (w.heap.size + 1)) W := fun W => by kernel_rfl
    have i3 : ∀ W : World, (Instr.index 106 (steps (w.heap.size + 1)) (.int .i64 3)).run Tryz.prog W = .ok (fn 63 (w.heap.size + 1)) W := fun W => by kernel_rfl
    have i4 : ∀ W : World, (Instr.index 106 (steps (w.heap.size + 1)) (.int .i64 4)).run Tryz.prog W = .ok (fn 64 (w.heap.size + 1)) W := fun W => by kernel_rfl
    simp only [steps, fn] at i0 i1 i2 i3 i4
    clear hp
    let s0 : RS := ⟨A, l.length, c, 0, 0, bs [], bs [], 0, .slice none 0 0, .slice none 0 0, .slice none 0 0, 0⟩
    obtain ⟨W, hW⟩ : ∃ W, W = (w.alloc (.cells #[.string (bs []), .string (bs []), .int .i64 0, .slice none 0 0, .slice none 0 0] 29)).alloc (.cells s0.cells 105) := ⟨_, rfl⟩
    have hLW : Low w.heap.size w W := by rw [hW]; exact ((Low.refl _ _).alloc (Nat.le_refl _) _).alloc (by simp) _
    have hZ : ZRow W w.heap.size (bs []) (bs []) 0 (.slice none 0 0) (.slice none 0 0) := by
      rw [hW]
      exact ZRow.low (b := w.heap.size + 1) ⟨heap_alloc_new w _⟩ ((Low.refl _ _).alloc (by simp) _) (Nat.lt_succ_self _)
    have hB : RBlk W (w.heap.size + 1) s0 := by
      refine ⟨?_⟩
      rw [hW]
      have := heap_alloc_new (w.alloc (.cells #[.string (bs []), .string (bs []), .int .i64 0, .slice none 0 0, .slice none 0 0] 29)) (.cells s0.cells 105)
      simpa using this
    have hgl := hg.lt
    have hRd : Rd W (w.heap.size + 1) s0 l := ⟨hB, rfl, hl.far hLW hA, fun ad e => Nat.lt_succ_of_lt (hA ad e), by omega, hc, Nat.zero_le _, rfl, hg.low hLW hgl, by omega⟩
    go_wp2
    rw [show (w.alloc (.cells #[.string { data := #[] }, .string { data := #[] }, .int .i64 0, .slice none 0 0, .slice none 0 0] 29)).alloc (.cells #[.slice A l.length c, .int .i64 0, .int .i64 0, .string { data := #[] }, .string { data := #[] }, .int .i64 0, .slice none 0 0, .slice none 0 0, .slice none 0 0, .int .i64 0] 105) = W from hW.symm]
    clear hW
    have HZ := Lib.hid hZ
    have HR := Lib.hid hRd
    have H1 := Lib.hid (first_calls W (w.heap.size + 1) s0 l hRd rfl rfl rfl)
    clear hZ hB hRd
    refine wp_loop_rounds 6 ?_
    rw [rounds_succ]
    go_wp2_with fail
    refine H1.out.mono ?_
    show ∀ e w', Told W w' (w.heap.size + 1) s0 e ((firstAt l 0).map fun x => { s0 with at_ := x.2.2.2, me := bs x.1, pa := bs x.2.1, st := x.2.2.1 }) → _
    have HP1 := HP.out
    clear H1
    rcases hfa : firstAt l 0 with cc | ⟨me, pa, st, a⟩
    · rintro e ww ⟨rfl, s', hR1, hs⟩
      rw [hfa] at HP1
      dsimp only at HP1
      have hPP := Lib.hid HP1
      have hBB := hR1.blk
      have hLL := hR1.low (b := w.heap.size + 1) (Nat.le_refl _) HR.out.blk.lt
      clear HP1 hfa
      have c2 : ww.cell? ⟨w.heap.size + 1, 2, none⟩ = some (.int .i64 cc) := by rw [hBB.cell 2 (by omega)]; simp [RS.cells, hs]
      have hz := HZ.out.low hLL (Nat.lt_succ_self _)
      have z0 := hz.cell 0
      have z1 := hz.cell 1
      have z2 := hz.cell 2
      have z3 := hz.cell 3
      have z4 := hz.cell 4
      have y0 := hz.f 0
      have y1 := hz.f 1
      have y2 := hz.f 2
      have y3 := hz.f 3
      have y4 := hz.f 4
      simp at z0 z1 z2 z3 z4
      go_wp2
      go_region
      go_wp2
      refine bodyPost_ret (results_row_tmp rfl _ _ w.heap.size 29 _ (0, 0) _ rfl (World.heap_drew_row (ZRow.to (me' := ⟨#[]⟩) (pa' := ⟨#[]⟩) (st' := 0) (hv' := .slice none 0 0) (bv' := .slice none 0 0) hz).out) Tryz.underlying29 rfl size29) rfl ?_
      rw [hPP.out]
      exact ⟨rfl, (ZRow.low5 (hLW.trans (hLL.mono (Nat.le_succ _))) _ _ _ _ _).drew⟩
    · rintro e w1 ⟨rfl, hR1⟩
      rw [hfa] at HP1
      dsimp only at HP1 hR1
      obtain ⟨ha, hpos, hpa⟩ := firstAt_ok hfa
      obtain ⟨ad0, hA0, _⟩ := hl.out 0 hpos
      have hL1 := hR1.low (b := w.heap.size + 1) (Nat.le_refl _) HR.out.blk.lt
      have hRd1 := HR.out.to hR1 rfl rfl rfl ha rfl
      have H2 := Lib.hid (heads_calls w1 _ _ l hRd1 rfl)
      clear hfa hR1
      go_wp2
      rw [rounds_succ]
      go_wp2_with fail
      refine H2.out.mono ?_
      show ∀ e w', HTold w1 w' (w.heap.size + 1) _ e (headsF l 21 a []) → _
      clear H2
      rcases hha : headsF l 21 a [] with cc | ⟨raw, a1⟩
      · rintro e ww ⟨rfl, s', hBB, hs, hLL2⟩
        rw [hha] at HP1
        dsimp only at HP1
        have hPP := Lib.hid HP1
        have hLL := hL1.trans hLL2
        clear HP1 hha
        have c2 : ww.cell? ⟨w.heap.size + 1, 2, none⟩ = some (.int .i64 cc) := by rw [hBB.cell 2 (by omega)]; simp [RS.cells, hs]
        have hz := HZ.out.low hLL (Nat.lt_succ_self _)
        have z0 := hz.cell 0
        have z1 := hz.cell 1
        have z2 := hz.cell 2
        have z3 := hz.cell 3
        have z4 := hz.cell 4
        have y0 := hz.f 0
        have y1 := hz.f 1
        have y2 := hz.f 2
        have y3 := hz.f 3
        have y4 := hz.f 4
        simp at z0 z1 z2 z3 z4
        go_wp2
        go_region
        go_wp2
        refine bodyPost_ret (results_row_tmp rfl _ _ w.heap.size 29 _ (0, 0) _ rfl (World.heap_drew_row (ZRow.to (me' := ⟨#[]⟩) (pa' := ⟨#[]⟩) (st' := 0) (hv' := .slice none 0 0) (bv' := .slice none 0 0) hz).out) Tryz.underlying29 rfl size29) rfl ?_
        rw [hPP.out]
        exact ⟨rfl, (ZRow.low5 (hLW.trans (hLL.mono (Nat.le_succ _))) _ _ _ _ _).drew⟩
      · rintro e w2 ⟨rfl, rv, hB2, hO2, hLL2⟩
        rw [hha] at HP1
        dsimp only at HP1 hB2
        obtain ⟨ha1, h20, hv8⟩ := headsF_ok l _ _ _ _ _ hha (by simp) (by simp)
        have hL2 := hL1.trans hLL2
        have hRd2 := hRd1.go hLL2 hB2 rfl rfl rfl ha1 rfl
        have H3 := Lib.hid (frame_calls w2 _ _ l raw hRd2 hO2 h20 (fun h hh => Nat.le_trans (hv8 h hh) (by omega)) rfl rfl)
        clear hha
        go_wp2
        rw [rounds_succ]
        go_wp2_with fail
        refine H3.out.mono ?_
        clear H3
        rcases hfr : frameF raw with cc | ⟨size, heads⟩
        · rintro e ww ⟨rfl, s', hBB, hs, hLL3⟩
          rw [hfr] at HP1
          dsimp only at HP1
          have hPP := Lib.hid HP1
          have hLL := hL2.trans hLL3
          clear HP1 hfr
          have c2 : ww.cell? ⟨w.heap.size + 1, 2, none⟩ = some (.int .i64 cc) := by rw [hBB.cell 2 (by omega)]; simp [RS.cells, hs]
          have hz := HZ.out.low hLL (Nat.lt_succ_self _)
          have z0 := hz.cell 0
          have z1 := hz.cell 1
          have z2 := hz.cell 2
          have z3 := hz.cell 3
          have z4 := hz.cell 4
          have y0 := hz.f 0
          have y1 := hz.f 1
          have y2 := hz.f 2
          have y3 := hz.f 3
          have y4 := hz.f 4
          simp at z0 z1 z2 z3 z4
          go_wp2
          go_region
          go_wp2
          refine bodyPost_ret (results_row_tmp rfl _ _ w.heap.size 29 _ (0, 0) _ rfl (World.heap_drew_row (ZRow.to (me' := ⟨#[]⟩) (pa' := ⟨#[]⟩) (st' := 0) (hv' := .slice none 0 0) (bv' := .slice none 0 0) hz).out) Tryz.underlying29 rfl size29) rfl ?_
          rw [hPP.out]
          exact ⟨rfl, (ZRow.low5 (hLW.trans (hLL.mono (Nat.le_succ _))) _ _ _ _ _).drew⟩
        · rintro e w3 ⟨rfl, hv, hB3, hO3, hLL3⟩
          rw [hfr] at HP1
          dsimp only at HP1 hB3
          obtain ⟨hsz, hmem, hhl⟩ := frameF_ok hfr
          have hL3 := hL2.trans hLL3
          have hRd3 := hRd2.go hLL3 hB3 rfl rfl rfl ha1 rfl
          have H4 := Lib.hid (body_calls w3 _ _ l heads ⟨hRd3, BOwn.nil _ _, hO3, fun k hk => by cases hk⟩ ⟨ad0, hA0⟩ hsz rfl)
          clear hfr
          go_wp2
          rw [rounds_succ]
          go_wp2_with fail
          refine H4.out.mono ?_
          show ∀ e w', BTold w3 w' (w.heap.size + 1) _ l heads e (bodyAll l size a1) → _
          clear H4
          rcases hbo : bodyAll l size a1 with cc | ⟨body, a2⟩
          · rintro e ww ⟨rfl, s', hBB, hs, hLL4⟩
            rw [hbo] at HP1
            dsimp only at HP1
            have hPP := Lib.hid HP1
            have hLL := hL3.trans hLL4
            clear HP1 hbo
            have c2 : ww.cell? ⟨w.heap.size + 1, 2, none⟩ = some (.int .i64 cc) := by rw [hBB.cell 2 (by omega)]; simp [RS.cells, hs]
            have hz := HZ.out.low hLL (Nat.lt_succ_self _)
            have z0 := hz.cell 0
            have z1 := hz.cell 1
            have z2 := hz.cell 2
            have z3 := hz.cell 3
            have z4 := hz.cell 4
            have y0 := hz.f 0
            have y1 := hz.f 1
            have y2 := hz.f 2
            have y3 := hz.f 3
            have y4 := hz.f 4
            simp at z0 z1 z2 z3 z4
            go_wp2
            go_region
            go_wp2
            refine bodyPost_ret (results_row_tmp rfl _ _ w.heap.size 29 _ (0, 0) _ rfl (World.heap_drew_row (ZRow.to (me' := ⟨#[]⟩) (pa' := ⟨#[]⟩) (st' := 0) (hv' := .slice none 0 0) (bv' := .slice none 0 0) hz).out) Tryz.underlying29 rfl size29) rfl ?_
            rw [hPP.out]
            exact ⟨rfl, (ZRow.low5 (hLW.trans (hLL.mono (Nat.le_succ _))) _ _ _ _ _).drew⟩
          · rintro e w4 ⟨rfl, bv, hB4, hLL4⟩
            rw [hbo] at HP1
            dsimp only at HP1 hB4
            obtain ⟨hbl, ha2⟩ := bodyAll_ok hbo
            have hL4 := hL3.trans hLL4
            have H5 := Lib.hid (last_calls w4 _ _ l ⟨me, pa, st, heads, body⟩ hB4 rfl rfl rfl (fun h hh => Nat.le_trans (hv8 h (hmem h hh)) (by omega)) (by simp only; omega) (by simp only; omega) (by simp only; omega))
            clear hbo
            go_wp2
            rw [rounds_succ]
            go_wp2_with fail
            refine H5.out.mono ?_
            show ∀ e w', LTold w4 w' (w.heap.size + 1) _ l body heads e (lastF l a2 ⟨me, pa, st, heads, body⟩) → _
            clear H5
            rcases hla : lastF l a2 ⟨me, pa, st, heads, body⟩ with cc | u
            · rintro e ww ⟨rfl, s', hBB, hs, hLL5⟩
              rw [hla] at HP1
              dsimp only at HP1
              have hPP := Lib.hid HP1
              have hLL := hL4.trans hLL5
              clear HP1 hla
              have c2 : ww.cell? ⟨w.heap.size + 1, 2, none⟩ = some (.int .i64 cc) := by rw [hBB.cell 2 (by omega)]; simp [RS.cells, hs]
              have hz := HZ.out.low hLL (Nat.lt_succ_self _)
              have z0 := hz.cell 0
              have z1 := hz.cell 1
              have z2 := hz.cell 2
              have z3 := hz.cell 3
              have z4 := hz.cell 4
              have y0 := hz.f 0
              have y1 := hz.f 1
              have y2 := hz.f 2
              have y3 := hz.f 3
              have y4 := hz.f 4
              simp at z0 z1 z2 z3 z4
              go_wp2
              go_region
              go_wp2
              refine bodyPost_ret (results_row_tmp rfl _ _ w.heap.size 29 _ (0, 0) _ rfl (World.heap_drew_row (ZRow.to (me' := ⟨#[]⟩) (pa' := ⟨#[]⟩) (st' := 0) (hv' := .slice none 0 0) (bv' := .slice none 0 0) hz).out) Tryz.underlying29 rfl size29) rfl ?_
              rw [hPP.out]
              exact ⟨rfl, (ZRow.low5 (hLW.trans (hLL.mono (Nat.le_succ _))) _ _ _ _ _).drew⟩
            · rintro e w5 ⟨rfl, hB5, hLL5⟩
              rw [hla] at HP1
              dsimp only at HP1
              have hPP := Lib.hid HP1
              have hL5 := hL4.trans hLL5
              clear HP1 hla
              obtain ⟨bA, bc, hbv, hbc, hBts, hbA⟩ := hB5.body.slice
              obtain ⟨hA', hc', hhv, hhc, hHds, hhA⟩ := hB5.heads.slice
              have hz := HZ.out.low hL5 (Nat.lt_succ_self _)
              have z0 := hz.cell 0
              have z1 := hz.cell 1
              have z2 := hz.cell 2
              have z3 := hz.cell 3
              have z4 := hz.cell 4
              have y0 := hz.f 0
              have y1 := hz.f 1
              have y2 := hz.f 2
              have y3 := hz.f 3
              have y4 := hz.f 4
              simp at z0 z1 z2 z3 z4
              have k3 := hB5.rd.blk.cell 3 (by omega)
              have k4 := hB5.rd.blk.cell 4 (by omega)
              have k5 := hB5.rd.blk.cell 5 (by omega)
              have k6 := hB5.rd.blk.cell 6 (by omega)
              have k7 := hB5.rd.blk.cell 7 (by omega)
              dsimp only at hhv hbv
              simp [RS.cells, hhv, hbv] at k3 k4 k5 k6 k7
              go_wp2
              rw [rounds_succ]
              go_wp2
              refine bodyPost_ret (results_row_tmp rfl _ _ w.heap.size 29 _ (0, 0) _ rfl (ZRow.to (me' := bs me) (pa' := bs pa) (st' := st) (hv' := .slice hA' heads.length hc') (bv' := .slice bA body.length bc) hz).out Tryz.underlying29 rfl size29) rfl ?_
              rw [hPP.out]
              have ho := hB5.heads
              have hb := hB5.body
              rw [hhv] at ho
              rw [hbv] at hb
              have ho2 := ((((ho.setG (g := w.heap.size) (by omega) 0 (.string (bs me))).setG (g := w.heap.size) (by omega) 1 (.string (bs pa))).setG (g := w.heap.size) (by omega) 2 (.int .i64 st)).setG (g := w.heap.size) (by omega) 3 (.slice hA' heads.length hc')).setG (g := w.heap.size) (by omega) 4 (.slice bA body.length bc)
              have hb2 := ((((hb.setG (g := w.heap.size) (by omega) 0 (.string (bs me))).setG (g := w.heap.size) (by omega) 1 (.string (bs pa))).setG (g := w.heap.size) (by omega) 2 (.int .i64 st)).setG (g := w.heap.size) (by omega) 3 (.slice hA' heads.length hc')).setG (g := w.heap.size) (by omega) 4 (.slice bA body.length bc)
              obtain ⟨A6, c6, e6, _, hHds6, hA6⟩ := ho2.slice
              obtain ⟨A7, c7, e7, _, hBts7, hA7⟩ := hb2.slice
              cases e6
              cases e7
              exact ⟨⟨hA', hc', bA, bc, rfl, hhc, hbc, hHds6, hBts7, fun ad e => ⟨by have := (hA6 ad e).1; omega, (hA6 ad e).2.1⟩, fun ad e => ⟨by have := (hA7 ad e).1; omega, (hA7 ad e).2.1⟩⟩, ZRow.low5 (hLW.trans (hL5.mono (Nat.le_succ _))) _ _ _ _ _⟩
end Go.Proofs.YtcognpibphpadaaGreatDoor
