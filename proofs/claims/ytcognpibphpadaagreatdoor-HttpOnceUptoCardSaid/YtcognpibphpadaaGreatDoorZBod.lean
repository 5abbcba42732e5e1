/- Appending bytes, in a round of a range over a function value. -/
import Derived.Test.YtcognpibphpadaaGreatDoorZChn
import Derived.Test.YtcognpibphpadaaGreatDoorZByt
set_option linter.unusedVariables false
set_option linter.unusedSimpArgs false
namespace Go.Proofs.YtcognpibphpadaaGreatDoor
open Go.RowKit Go.Shelf

theorem run_any {w : World} (ty : TypeId) (b : Nat) (v : Value) (l x : B) (A : Option Addr) (c : Nat) (hown : BOwn w b v l) (hx : Bts w A x) (hc : A = none → c = 0) (hl : l.length + x.length ≤ 1000000) (hb : b ≤ w.heap.size) :
    ∃ v' w', (Builtin.append_ #[23, 23] ty #[v, .slice A x.length c]).run Tryz.prog w = .ok v' w' ∧ BOwn w' b v' (l ++ x) ∧ w.grownBy w' v.ownBlock := by
  cases A with
  | some ad =>
    obtain ⟨A', cap, w', hr, h1, h2, _⟩ := run_bytes ty b v l x ad c hown hx hl hb
    exact ⟨_, w', hr, h1, h2⟩
  | none =>
    have h0 : x = [] := by
      cases x with
      | nil => rfl
      | cons y r =>
        obtain ⟨ad, e, _⟩ := hx.out 0 (by simp)
        cases e
    subst h0
    rw [hc rfl]
    obtain ⟨i, z, h1, h2, h3, h4, h5⟩ := info5'
    have hr := run_append_owned_none (P := Tryz.prog) w b 23 ty 5 i 1 Tryz.underlying23 h1 v l.length (bcs l) hown.out
    exact ⟨v, w, hr, by rw [List.append_nil]; exact hown, ⟨rfl, rfl, rfl, Nat.le_refl _, fun _ _ _ => rfl⟩⟩
/-- 'append(bytes, bytes...)' as one step of a region in a round. -/
theorem stepIn_any {F : Fence} {n : Nat} {w : World} {ops : Array Oper} {o : Oper} {a : Act} {K : Act → World → Prop} {Q : Exit → Act → World → Prop} {E : Prop} (b : Nat) (v : Value) (l x : B) (A : Option Addr) (m c : Nat) (s xo : Operand)
    (hown : BOwn w b v l) (hx : Bts w A x) (hc : A = none → c = 0) (hm : m = x.length)
    (hgd : o.guard = none) (hop : o.op = .call { callee := .builtin .append, args := #[s, xo], argTypes := #[23, 23] }) (hs : a.eval s = v) (hxo : a.eval xo = .slice A m c)
    (hl : l.length + x.length ≤ 1000000) (hb : b ≤ w.heap.size)
    (h' : ∀ v' w', BOwn w' b v' (l ++ x) → w.grownBy w' v.ownBlock → K (a.put o.dst v') w') :
    if Region.wanted o (yielded ops a.tmps) = true then Oper.wpIn F n Tryz.prog o a w K Q else E := by
  have hw : Region.wanted o (yielded ops a.tmps) = true := by simp [Region.wanted, hgd]
  rw [if_pos hw]
  subst hm
  obtain ⟨v', w', hr, h1, h2⟩ := run_any o.type b v l x A c hown hx hc hl hb
  unfold Oper.wpIn
  refine ⟨?_, ?_⟩
  · simp [Oper.about, hop, resolve, Target.leads, Sem.run_pure]
  · rw [Oper.semAt_plain F _ _ (by rw [hop]; intro c hc'; cases hc')]
    simp [execOp, hop, resolve, invoke, builtin, hs, hxo, hr, Result.andThen]
    exact h' v' w' h1 h2
/-- A call of a Go function with three arguments as one step of a region in a round. -/
theorem stepIn_call3 {F : Fence} {n : Nat} {w : World} {ops : Array Oper} {o : Oper} {a : Act} {K : Act → World → Prop} {Q : Exit → Act → World → Prop} {E : Prop} (f : Nat) (x y z : Operand) (ts : Array TypeId) (v1 v2 v3 : Value) {R : Ending → World → Prop}
    (hgd : o.guard = none) (hop : o.op = .call { callee := .value (.func f), args := #[x, y, z], argTypes := ts }) (h1 : a.eval x = v1) (h2 : a.eval y = v2) (h3 : a.eval z = v3)
    (eg : ∀ args w, (callFunc f args).run Tryz.prog w = .ok (.enter f args) w) (hF : F.fn f) (hd : F.depth.isSome = true → 1 ≤ n) (hC : CallsIn F (n - 1) Tryz.prog f #[v1, v2, v3] w R)
    (hR : ∀ e w', R e w' → ∃ v, e = .returned v ∧ K (a.put o.dst v) w') :
    if Region.wanted o (yielded ops a.tmps) = true then Oper.wpIn F n Tryz.prog o a w K Q else E := by
  have hw : Region.wanted o (yielded ops a.tmps) = true := by simp [Region.wanted, hgd]
  rw [if_pos hw]
  have hfe : a.eval (.func f) = .func (.func f) #[] #[] := rfl
  unfold Oper.wpIn
  refine ⟨?_, ?_⟩
  · intro f' hf'
    simp [Oper.about, hop, resolve, Target.leads, Sem.run_pure, hfe, go_sem] at hf'
    rw [← hf']; exact hF
  · rw [Oper.semAt_plain F _ _ (by rw [hop]; intro c hc'; cases hc')]
    have he : (execOp a.eval o).run Tryz.prog w = .ok (.enter f #[v1, v2, v3]) w := by
      simp [execOp, hop, resolve, invoke, hfe, h1, h2, h3, eg, Result.andThen, Deferred.ofValue]
    rw [he, Oper.uponIn_enter]
    refine ⟨hd, hC.mono fun e w' hr => ?_⟩
    obtain ⟨v, rfl, hk⟩ := hR e w' hr
    exact hk
theorem BOwn.cells {w : World} {b : Nat} {v : Value} {l : B} (h : BOwn w b v l) : ∀ k, v.ownBlock = some k → ∃ cs t p, w.heap[k]? = some (.cells cs t p) := fun k hk => by
  rcases h.out.2 with ⟨rfl, _⟩ | ⟨g, cap, cur, rfl, hg, hh, _⟩
  · cases hk
  · cases hk
    exact ⟨_, _, _, hh⟩
theorem keep_grown {w w' : World} {b : Nat} {v : Value} {l : B} (h : BOwn w b v l) (hg : w.grownBy w' v.ownBlock) : KeepsOthers w w' :=
  ⟨hg.size, fun k o hk ho => (hg.block k (Array.getElem?_eq_some_iff.1 hk).1 (fun e => by
    obtain ⟨cs, t, p, hc⟩ := h.cells k e.symm
    rw [hk] at hc
    cases hc
    cases ho)).trans hk⟩
theorem below_grown {w w' : World} {b : Nat} {v : Value} {l : B} (h : BOwn w b v l) (hb : b ≤ w.heap.size) (hg : w.grownBy w' v.ownBlock) : ∀ k, k < b → w'.heap[k]? = w.heap[k]? := fun k hk =>
  hg.block k (by omega) (fun e => by have := (h.out.lt k e.symm).1; omega)
theorem boxed_grown {w w' : World} {b g : Nat} {t : TypeId} {v u : Value} {l : B} (h : Boxed w g t u) (ho : BOwn w b v l) (hB : g < b) (hg : w.grownBy w' v.ownBlock) : Boxed w' g t u :=
  h.kept hg (fun e => by have := (ho.out.lt g e.symm).1; omega)
end Go.Proofs.YtcognpibphpadaaGreatDoor
