/- http: bytes of the body. -/
import Derived.Test.YtcognpibphpadaaGreatDoorZFrame
import Derived.Test.YtcognpibphpadaaGreatDoorZChk
set_option linter.unusedVariables false
set_option linter.unusedSimpArgs false
namespace Go.Proofs.YtcognpibphpadaaGreatDoor
open Go.RowKit

def bcs (l : B) : List Value := l.map fun c => .int .u8 (c.toNat : Int)
structure BOwn (w : World) (b : Nat) (v : Value) (l : B) : Prop where
  out : w.ownsRow b 5 1 v l.length (bcs l)
theorem BOwn.nil (w : World) (b : Nat) : BOwn w b (.slice none 0 0) [] := ⟨World.ownsRow_nil w b 5 1⟩
theorem BOwn.slice {w : World} {b : Nat} {v : Value} {l : B} (h : BOwn w b v l) : ∃ A c, v = .slice A l.length c ∧ l.length ≤ c ∧ Bts w A l ∧ ∀ ad, A = some ad → b ≤ ad.block ∧ ad.block < w.heap.size ∧ v.ownBlock = some ad.block := by
  have hc := fun (g : Nat) (hg : v.ownBlock = some g) => World.ownsRow.cells h.out (g := g) hg
  rcases h.out.2 with ⟨rfl, hn⟩ | ⟨g, cap, cur, rfl, hg, hb, hle, _, _, _⟩
  · exact ⟨none, 0, by rw [hn], by omega, ⟨fun j hj => by omega⟩, fun ad e => by cases e⟩
  · have hlt : g < w.heap.size := (Array.getElem?_eq_some_iff.1 hb).1
    refine ⟨_, cap, rfl, hle, ⟨fun j hj => ⟨_, rfl, ?_⟩⟩, fun ad e => by cases e; exact ⟨hg, hlt, rfl⟩⟩
    exact hc g rfl j _ (by simp [bcs, List.getElem?_eq_getElem hj])
theorem BOwn.same {w w1 : World} {b : Nat} {v : Value} {l : B} (h : BOwn w b v l) (hb : ∀ k, v.ownBlock = some k → w1.heap[k]? = w.heap[k]?) : BOwn w1 b v l := by
  refine ⟨h.out.1, ?_⟩
  rcases h.out.2 with hn | ⟨g, cap, cur, rfl, hg, hb', r⟩
  · exact .inl hn
  · exact .inr ⟨g, cap, cur, rfl, hg, (hb g rfl).trans hb', r⟩
theorem BOwn.low {w w1 : World} {b c : Nat} {v : Value} {l : B} (h : BOwn w b v l) (hl : Low c w w1) (hc : w.heap.size ≤ c) : BOwn w1 b v l :=
  h.same fun k hk => hl.out.block k (Nat.lt_of_lt_of_le (h.out.lt k hk).2 hc)
theorem BOwn.setG {w : World} {g b : Nat} {v : Value} {l : B} (h : BOwn w b v l) (hb : g < b) (k : Nat) (x : Value) : BOwn (w.setCell ⟨g, k, none⟩ x) b v l :=
  h.same fun j hj => Below.heap_setCell w _ _ j (fun e => by have := (h.out.lt j hj).1; simp at e; omega)

theorem info5' : ∃ i z, Tryz.prog.info? 5 = some i ∧ i.zero = some z ∧ i.size = 1 ∧ i.bytes = 1 ∧ z.cells.size = 1 := by
  obtain ⟨i, hi, hh⟩ := Option.map_eq_some_iff.1 info5
  simp only [Prod.mk.injEq] at hh
  exact ⟨i, _, hi, hh.1, hh.2.1, hh.2.2, by kernel_rfl⟩
theorem run_bytes {w : World} (ty : TypeId) (b : Nat) (v : Value) (l x : B) (ad : Addr) (c : Nat) (hown : BOwn w b v l) (hx : Bts w (some ad) x) (hl : l.length + x.length ≤ 1000000) (hb : b ≤ w.heap.size) :
    ∃ A' cap w', (Builtin.append_ #[23, 23] ty #[v, .slice (some ad) x.length c]).run Tryz.prog w = .ok (.slice A' (l.length + x.length) cap) w' ∧ BOwn w' b (.slice A' (l.length + x.length) cap) (l ++ x) ∧ w.grownBy w' v.ownBlock ∧
      ((Value.slice A' (l.length + x.length) cap).ownBlock = v.ownBlock ∨ (Value.slice A' (l.length + x.length) cap).ownBlock = some w.heap.size) := by
  obtain ⟨i, z, h1, h2, h3, h4, h5⟩ := info5'
  obtain ⟨v', w', hr, ho, hg, _, hat⟩ := run_append_own_at (P := Tryz.prog) w b 23 ty 5 i z 1 1 Tryz.underlying23 h1 h2 h3 h4 h5 (by omega) v l.length (bcs l) hown.out ad x.length c (bcs x) (by simp [bcs])
    (fun j u hu => by
      simp only [bcs, List.getElem?_map, Option.map_eq_some_iff] at hu
      obtain ⟨cc, hc, rfl⟩ := hu
      obtain ⟨hj, rfl⟩ := List.getElem?_eq_some_iff.1 hc
      obtain ⟨ad', e, h⟩ := hx.out j hj
      cases e
      exact h) (by simp [bcs, Value.oneCell']) (by simp only [maxLen]; omega) (by omega) hb
  have hbo : BOwn w' b v' (l ++ x) := ⟨by
    have e : bcs (l ++ x) = bcs l ++ bcs x := by simp [bcs]
    rw [e, List.length_append]; exact ho⟩
  obtain ⟨A', cap, rfl, _⟩ := hbo.slice
  rw [List.length_append] at *
  exact ⟨A', cap, w', hr, hbo, hg, hat⟩
/-- 'append(x, bytes...)' as one step of a region that draws. -/
theorem step_bytes {w : World} {ops : Array Oper} {o : Oper} {a : Act} {K : Act → World → Prop} {Q : Exit → Act → World → Prop} {E : Prop} (b : Nat) (v : Value) (l x : B) (ad : Addr) (c : Nat) (s xo : Operand)
    (hown : BOwn w b v l) (hx : Bts w (some ad) x)
    (hgd : o.guard = none) (ho : o.op = .call { callee := .builtin .append, args := #[s, xo], argTypes := #[23, 23] }) (hs : a.eval s = v) (hxo : a.eval xo = .slice (some ad) x.length c)
    (hl : l.length + x.length ≤ 1000000) (hb : b ≤ w.heap.size)
    (h' : ∀ A' cap w', BOwn w' b (.slice A' (l.length + x.length) cap) (l ++ x) → w.grownBy w' v.ownBlock → ((Value.slice A' (l.length + x.length) cap).ownBlock = v.ownBlock ∨ (Value.slice A' (l.length + x.length) cap).ownBlock = some w.heap.size) → K (a.put o.dst (.slice A' (l.length + x.length) cap)) w') :
    if Region.wanted o (yielded ops a.tmps) = true then Oper.wp Tryz.prog o a w K Q else E := by
  have hw : Region.wanted o (yielded ops a.tmps) = true := by simp [Region.wanted, hgd]
  rw [if_pos hw]
  obtain ⟨A', cap, w', hr, h1, h2, h3⟩ := run_bytes o.type b v l x ad c hown hx hl hb
  unfold Oper.wp execOp
  simp only [ho, resolve, invoke, builtin, Sem.run_bind, Sem.run_pure, Result.andThen_ok, List.map_toArray, List.map_cons, List.map_nil, hs, hxo, hr]
  exact h' A' cap w' h1 h2 h3

structure BdS (w : World) (g : Nat) (s : RS) (l body : B) (heads : List Hd) : Prop where
  rd : Rd w g s l
  body : BOwn w (g + 1) s.bv body
  heads : HOwn w (g + 1) s.hv heads
  dis : ∀ k, s.bv.ownBlock = some k → s.hv.ownBlock ≠ some k

theorem BdS.far {w w1 : World} {g : Nat} {s : RS} {l body : B} {heads : List Hd} (h : BdS w g s l body heads) (hl : Low w.heap.size w w1) : BdS w1 g s l body heads :=
  ⟨h.rd.go (hl.mono (Nat.le_of_lt h.rd.blk.lt)) ⟨(hl.out.block g h.rd.blk.lt).trans h.rd.blk.out⟩ rfl rfl rfl h.rd.at_ h.rd.e, h.body.low hl (Nat.le_refl _), h.heads.low hl (Nat.le_refl _), h.dis⟩
theorem BdS.to {w w1 : World} {g : Nat} {s s1 : RS} {l body : B} {heads : List Hd} (h : BdS w g s l body heads) (k : RTo w w1 g s1) (hA : s1.A = s.A) (hn : s1.n = s.n) (hc : s1.c = s.c) (ha : s1.at_ ≤ l.length) (he : s1.e = 0) (hb : s1.bv = s.bv) (hh : s1.hv = s.hv) : BdS w1 g s1 l body heads :=
  ⟨h.rd.to k hA hn hc ha he, hb ▸ h.body.same fun j hj => k.grown.block j (h.body.out.lt j hj).2 (fun e => by have := (h.body.out.lt j hj).1; injection e with e; omega),
    hh ▸ h.heads.same fun j hj => k.grown.block j (h.heads.out.lt j hj).2 (fun e => by have := (h.heads.out.lt j hj).1; injection e with e; omega), by rw [hb, hh]; exact h.dis⟩

theorem take_end {w W W1 : World} {g : Nat} {s : RS} {l body x : B} {heads : List Hd} {A' : Option Addr} {cap : Nat} (hglt : g < w.heap.size) (HW : BdS W g s l body heads) (hLW : Low g w W)
    (hg1 : W.drew.grownBy W1 s.bv.ownBlock) (ho1 : BOwn W1 (g + 1) (.slice A' (body.length + x.length) cap) (body ++ x)) (hat1 : (Value.slice A' (body.length + x.length) cap).ownBlock = s.bv.ownBlock ∨ (Value.slice A' (body.length + x.length) cap).ownBlock = some W.drew.heap.size)
    (hx : s.at_ + x.length ≤ l.length) :
    Ending.returned (.bool true) = .returned (.bool true) ∧ ∃ bv', BdS ((W1.setCell ⟨g, 7, none⟩ (.slice A' (body.length + x.length) cap)).setCell ⟨g, 1, none⟩ (.int .i64 ((s.at_ : Int) + (x.length : Int)))) g { s with at_ := s.at_ + x.length, bv := bv' } l (body ++ x) heads ∧
      Low g w ((W1.setCell ⟨g, 7, none⟩ (.slice A' (body.length + x.length) cap)).setCell ⟨g, 1, none⟩ (.int .i64 ((s.at_ : Int) + (x.length : Int)))) := by
  have hgW := HW.rd.blk.lt
  have hgrv : some g ≠ s.bv.ownBlock := fun e => by have := (HW.body.out.lt g e.symm).1; omega
  have hB9 : RBlk W1 g s := ⟨(hg1.block g (by simp; omega) hgrv).trans HW.rd.blk.out⟩
  have hB10 := ((RTo.refl hB9).set (s2 := { s with bv := .slice A' (body.length + x.length) cap }) 7 (.slice A' (body.length + x.length) cap) (by simp [RS.cells])).set (s2 := { s with at_ := s.at_ + x.length, bv := .slice A' (body.length + x.length) cap }) 1 (.int .i64 ((s.at_ : Int) + (x.length : Int))) (by simp [RS.cells])
  have hgl : Low g W.drew W1 := ⟨⟨hg1.os, hg1.tape, hg1.output, hg1.size, fun k hk => hg1.block k (by simp; omega) (fun e => by have := (HW.body.out.lt k e.symm).1; omega)⟩⟩
  have hL2 : Low g W ((W1.setCell ⟨g, 7, none⟩ (.slice A' (body.length + x.length) cap)).setCell ⟨g, 1, none⟩ (.int .i64 ((s.at_ : Int) + (x.length : Int)))) := ((((Low.refl g W).drew).trans hgl).setCell (Nat.le_refl _) _).setCell (Nat.le_refl _) _
  refine ⟨rfl, _, ⟨HW.rd.go hL2 hB10.blk rfl rfl rfl hx HW.rd.e, (ho1.setG (Nat.lt_succ_self g) _ _).setG (Nat.lt_succ_self g) _ _, ?_, ?_⟩, hLW.trans hL2⟩
  · have hh : HOwn W1 (g + 1) s.hv heads := HW.heads.same fun j hj => hg1.block j (by have := (HW.heads.out.lt j hj).2; simpa using this) (fun e => HW.dis j e.symm hj)
    exact (hh.setG (Nat.lt_succ_self g) _ _).setG (Nat.lt_succ_self g) _ _
  · intro j hj hr
    rcases hat1 with e | e
    · exact HW.dis j (e ▸ hj) hr
    · have h1 := (HW.heads.out.lt j hr).2
      have h2 : some j = some W.drew.heap.size := hj.symm.trans e
      injection h2 with h2
      simp at h2; omega

set_option maxHeartbeats 8000000 in
set_option maxRecDepth 100000 in
theorem take_calls (w : World) (g : Nat) (s : RS) (l body : B) (heads : List Hd) (n : Nat) (h : BdS w g s l body heads) (hA : ∃ ad, s.A = some ad) (hbn : body.length + n ≤ 100000) :
    Calls Tryz.prog 113 #[.pointer (some ⟨g, 0, none⟩), .int .i64 n] w fun e w' => if l.length < s.at_ + n then (e = .returned (.bool false) ∧ ∃ s', RBlk w' g s' ∧ s'.e = 3 ∧ Low g w w')
      else (e = .returned (.bool true) ∧ ∃ bv', BdS w' g { s with at_ := s.at_ + n, bv := bv' } l (body ++ (l.drop s.at_).take n) heads ∧ Low g w w') := by
  obtain ⟨ad, hA⟩ := hA
  have hglt := h.rd.blk.lt
  have hn := h.rd.n
  have hcap := h.rd.cap
  have hat := h.rd.at_
  have hlen := h.rd.len
  have k0 := h.rd.blk.cell 0 (by omega)
  have k1 := h.rd.blk.cell 1 (by omega)
  have k7 := h.rd.blk.cell 7 (by omega)
  have f1 := h.rd.blk.free 1
  have f7 := h.rd.blk.free 7
  obtain ⟨A1, c1, hbv, _, _, _⟩ := h.body.slice
  simp [RS.cells] at k0 k1 k7
  rw [hA, hn] at k0
  have H := Lib.hid h
  have HQ := Lib.hid (show ∀ (e : Ending) (w' : World), ¬ l.length < s.at_ + n → (e = .returned (.bool true) ∧ ∃ bv', BdS w' g { s with at_ := s.at_ + n, bv := bv' } l (body ++ (l.drop s.at_).take n) heads ∧ Low g w w') → (if l.length < s.at_ + n then (e = .returned (.bool false) ∧ ∃ s', RBlk w' g s' ∧ s'.e = 3 ∧ Low g w w')
      else (e = .returned (.bool true) ∧ ∃ bv', BdS w' g { s with at_ := s.at_ + n, bv := bv' } l (body ++ (l.drop s.at_).take n) heads ∧ Low g w w')) from fun e w' hx hy => by rw [if_neg hx]; exact hy)
  by_cases hlt : l.length < s.at_ + n
  · simp only [if_pos hlt]
    have d1 : decide ((l.length : Int) - (s.at_ : Int) < (n : Int)) = true := by simp; omega
    go_enter Tryz.func113, Tryz.ntmps113
    go_wp2
    go_quiet (fail)
    go_wp2_with (go_at_call 107; refine (fail_calls _ g _ 3 (H.out.rd.blk.drewN _) H.out.rd.e).mono ?_; rintro e w5 ⟨rfl, hR6⟩)
    go_ret
    exact ⟨rfl, _, hR6.blk, rfl, ((Low.refl g w).drewN _).trans (hR6.low (Nat.le_refl _) (H.out.rd.blk.drewN _).lt)⟩
  · simp only [if_neg hlt]
    have d1 : decide ((l.length : Int) - (s.at_ : Int) < (n : Int)) = false := by simp; omega
    have hsl := slice_run 23 5 Tryz.underlying23 size5 ad l.length s.c s.at_ n (by omega)
    clear h HQ
    go_enter Tryz.func113, Tryz.ntmps113
    go_wp2
    go_quiet (fail)
    go_wp2
    have hW0 : BdS (w.drewN nq) g s l body heads := H.out.far ((Low.refl _ _).drewN nq)
    have hLW : Low g w (w.drewN nq) := (Low.refl _ _).drewN nq
    generalize w.drewN nq = W at hW0 hLW ⊢
    clear k0 k1 k7 f1 f7
    have k0 := hW0.rd.blk.cell 0 (by omega)
    have k1 := hW0.rd.blk.cell 1 (by omega)
    have k7 := hW0.rd.blk.cell 7 (by omega)
    have f7 := hW0.rd.blk.free 7
    simp [RS.cells] at k0 k1 k7
    rw [hA, hn] at k0
    have hgW := hW0.rd.blk.lt
    have HX := (hA ▸ hW0.rd.bytes : Bts W (some ad) l).sub s.c s.at_ n (by omega) (by omega)
    have hxl : ((l.drop s.at_).take n).length = n := by simp; omega
    generalize hxe : (l.drop s.at_).take n = x at HX hxl
    subst hxl
    have HXE := Lib.hid hxe
    clear hxe
    have hgrv : some g ≠ s.bv.ownBlock := fun e => by have := (hW0.body.out.lt g e.symm).1; omega
    have hBW : ∀ (W1 : World), W.drew.grownBy W1 s.bv.ownBlock → RBlk W1 g s := fun W1 hg1 => ⟨(hg1.block g (by simp; omega) hgrv).trans hW0.rd.blk.out⟩
    have hWd := hW0.far ((Low.refl W.heap.size W).drew)
    have hbW : g + 1 ≤ W.drew.heap.size := by simp; omega
    have HXd := Lib.hid (HX.low ((Low.refl W.heap.size W).drew) (Nat.le_refl _))
    have HW := Lib.hid hW0
    have hwr : IntKind.i64.wrap ((s.at_ : Int) + (x.length : Int)) = (s.at_ : Int) + (x.length : Int) := by
      have : x.length ≤ 100000 := by omega
      go_unwrap
    clear hW0 HX
    go_region_law (refine step_bytes (g + 1) s.bv body x (subA ad s.c s.at_) (s.c - s.at_) (.tmp 24) (.tmp 39) hWd.body HXd.out rfl rfl (by simp [Act.eval, Act.put, hbv]) (by simp [Act.eval, Act.put]) (by omega) hbW ?_; intro A' cap W1 ho1 hg1 hat1; have cc7 := (hBW _ hg1).cell 7 (by omega); have ff7 := (hBW _ hg1).free 7; simp [RS.cells] at cc7)
    all_goals
      have hB9 := hBW _ hg1
      have hB10 := (RTo.refl hB9).set (s2 := { s with bv := .slice A' (body.length + x.length) cap }) 7 (.slice A' (body.length + x.length) cap) (by simp [RS.cells])
      have m1 := hB10.blk.cell 1 (by omega)
      have n1 := hB10.blk.free 1
      simp [RS.cells] at m1
      go_wp2
      go_ret
      rw [HXE.out]
      exact take_end hglt HW.out hLW hg1 ho1 hat1 (by omega)
end Go.Proofs.YtcognpibphpadaaGreatDoor
