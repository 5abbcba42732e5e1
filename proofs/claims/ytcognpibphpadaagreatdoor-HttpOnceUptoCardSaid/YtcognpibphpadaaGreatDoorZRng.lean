/- A range over a function value that keeps a variable of its own in a box: the caller's law. -/
import Derived.Test.YtcognpibphpadaaGreatDoorZHex
set_option linter.unusedVariables false
set_option linter.unusedSimpArgs false
namespace Go.Proofs.YtcognpibphpadaaGreatDoor
open Go.RowKit Go.Shelf

/-- Blocks of one sort lie as they lay. -/
def Lie (S : Nat → Prop) (W W' : World) : Prop := ∀ k, S k → W'.heap[k]? = W.heap[k]?
theorem Lie.trans {S : Nat → Prop} {A B C : World} (h : Lie S A B) (k : Lie S B C) : Lie S A C := fun i hi => (k i hi).trans (h i hi)
theorem put_block (W : World) (l k : Nat) (o : Obj) (h : k < W.heap.size) (hne : k ≠ l) : (W.putObj l o).heap[k]? = W.heap[k]? :=
  (grownBy_putObj' W l o).block k h (fun e => hne (by injection e))
/-- What the function value that is ranged over is shown to do: it yields a row of elements, one behind the other, writing no memory but the block bB. -/
def Yields {α : Type} (n : Nat) (gf : Nat) (lb : Array Value) (encs : α → Array Value) (S : Nat → Prop) (bB : Nat) (G : List α → Prop) (all : List α) (w : World) : Prop :=
  ∀ (l : Nat) (J : List α → World → Prop) (W : World), Below w.heap.size w W →
    (∀ s A B row, J s A → A.grownBy B row → (∀ r, row = some r → r = bB) → J s B) →
    (∀ pre x W1, J pre W1 → G (pre ++ [x]) → YieldAt Fence.wide (n - 1) Tryz.prog l (encs x) W1 fun e W' => e = .returned (.bool true) ∧ J (pre ++ [x]) W' ∧ Lie S W1 W') →
    J [] W →
    CallsIn Fence.wide n Tryz.prog gf (#[.func (.yield l) #[] #[]] ++ lb) W fun e W' => (∃ v, e = .returned v) ∧ J all W'

theorem range_box {α : Type} {n : Nat} {g : Operand} {ps : Array Tmp} {assign body : Code} {Q : Exit → Act → World → Prop} {a : Act} {w : World} (h1 : 1 ≤ n) {gf : Nat} {lb : Array Value}
    (hg : a.eval g = .func (.func gf) #[] lb) (eg : ∀ args w, (callFunc gf args).run Tryz.prog w = .ok (.enter gf args) w)
    {encs : α → Array Value} {S : Nat → Prop} {bB : Nat} {G : List α → Prop} {all : List α} (hseq : Yields (n - 1) gf lb encs S bB G all w) (hbB : bB < w.heap.size) (hS : ∀ k, S k → k < w.heap.size)
    (hps : ∀ x, (encs x).size = ps.size) (I : List α → World → Prop)
    (hI : ∀ s A B row, I s A → A.grownBy B row → (∀ r, row = some r → r = bB ∨ (w.heap.size ≤ r ∧ ∃ o : Obj, A.heap[r]? = some o ∧ o.isCells = false)) → I s B) (h0 : I [] w) (a₁ : α → Act)
    (hassign : ∀ (l : Nat) (x : α) (W : World) (K : Act → World → Prop), K (a₁ x) W →
      assign.wpIn (Fence.wide.inRound l) (n - 1 - 1) Tryz.prog (Exit.then K (fun _ _ _ => False)) { tmps := (ps.zip (encs x)).foldl (fun t (p, v) => t.setIfInBounds p v) a.tmps, defers := [] } W)
    (hbody : ∀ (l : Nat) (pre : List α) (x : α) (W : World), I pre W → w.heap.size ≤ W.heap.size → G (pre ++ [x]) → body.wpIn (Fence.wide.inRound l) (n - 1 - 1) Tryz.prog (ownPostG w.heap.size (Lie S) I (fun _ _ _ => False) (pre ++ [x]) W) (a₁ x) W)
    (hdone : ∀ (D : Nat) (W : World), w.heap.size ≤ D → I all W → W.heap[D]? = some (.deferred (some [])) → Q .normal { a with defers := { target := .collected D, args := #[] } :: a.defers } W) :
    (Code.rangeFunc g ps assign body).wpIn Fence.wide n Tryz.prog Q a w := by
  refine wpIn_rangeFunc ?_
  intro fn hfn
  obtain ⟨rc, hrc⟩ : ∃ rc : LoopState → Loop, rc = fun st => { state := st, pending := none, fn, tmps := a.tmps, params := ps, assign, body, defers := w.heap.size } := ⟨_, rfl⟩
  obtain ⟨W1, hW1⟩ : ∃ W1, (w.alloc (.deferred (some []))).alloc (.loop (rc .ready)) = W1 := ⟨_, rfl⟩
  have hz1 : W1.heap.size = w.heap.size + 2 := by rw [← hW1]; simp
  have hgr : w.grownBy W1 none := by
    rw [← hW1]
    exact ⟨rfl, rfl, rfl, (by simp; omega), fun k hk _ => (Below.heap_alloc _ _ k (by simp; omega)).trans (Below.heap_alloc _ _ k hk)⟩
  have hI1 : I [] W1 := hI _ _ _ none h0 hgr (fun r e => by cases e)
  have hL1 : W1.heap[w.heap.size + 1]? = some (.loop (rc .ready)) := by
    rw [← hW1]
    have := World.alloc_heap_new (w.alloc (.deferred (some []))) (.loop (rc .ready))
    rwa [World.size_alloc] at this
  have hD1 : W1.heap[w.heap.size]? = some (.deferred (some [])) := by
    rw [← hW1]; exact (Below.heap_alloc _ _ _ (by simp)).trans (World.alloc_heap_new w _)
  have hb1 : Below w.heap.size w W1 := by
    rw [← hW1]; exact ((Below.refl _ w).alloc (Nat.le_refl _) _).alloc (by simp) _
  refine ⟨w.heap.size + 1, [{ target := .collected w.heap.size, args := #[] }], W1, { target := .fn (.func gf) lb, args := #[.func (.yield (w.heap.size + 1)) #[] #[]] }, W1, gf,
    #[.func (.yield (w.heap.size + 1)) #[] #[]] ++ lb, W1, ?_, ?_, ?_, ?_, fun _ => h1, ?_⟩
  · rw [← hW1, hrc]; exact run_enterLoop_outer _ _ _ _ _
  · simp only [resolve, hg]
    simp [go_sem]
  · intro f' hf'; exact trivial
  · simp [invoke, go_sem, eg]
  · refine (hseq (w.heap.size + 1) (fun pre W => (I pre W ∧ w.heap.size + 2 ≤ W.heap.size) ∧ W.heap[w.heap.size + 1]? = some (.loop (rc .ready)) ∧ W.heap[w.heap.size]? = some (.deferred (some []))) W1 hb1 ?_ ?_ ⟨⟨hI1, by omega⟩, hL1, hD1⟩).mono ?_
    · rintro s A B row ⟨⟨hi, hz⟩, hl, hd⟩ hg2 hr
      have hne : ∀ k, k ≠ bB → k < A.heap.size → B.heap[k]? = A.heap[k]? := fun k hk hks => hg2.block k hks (fun e => hk (hr k e.symm))
      exact ⟨⟨hI _ _ _ row hi hg2 (fun r e => .inl (hr r e)), Nat.le_trans hz hg2.size⟩, (hne _ (by omega) (by omega)).trans hl, (hne _ (by omega) (by omega)).trans hd⟩
    · -- one round
      rintro pre x W ⟨⟨hi, hz⟩, hl, hd⟩ hG
      have hy := run_yield (P := Tryz.prog) (args := encs x) hl (by rw [hrc]; exact hps x)
      rw [hrc] at hy
      refine ⟨fn, _, assign, body, hy, roundIn_of_wpIn hfn (hassign _ x W _ ⟨_, run_beginRound hl (by rw [hrc]), ?_⟩)⟩
      obtain ⟨Wb, hWb⟩ : ∃ Wb, Wb = W.putObj (w.heap.size + 1) (.loop { rc .ready with state := .busy }) := ⟨_, rfl⟩
      rw [← hWb]
      have hgb : W.grownBy Wb (some (w.heap.size + 1)) := by rw [hWb]; exact grownBy_putObj' _ _ _
      have hib : I pre Wb := hI _ _ _ _ hi hgb (fun r e => by cases e; exact .inr ⟨by omega, _, hl, rfl⟩)
      have hlb : Wb.heap[w.heap.size + 1]? = some (.loop { rc .ready with state := .busy }) := by rw [hWb]; exact World.putObj_heap_same (by omega)
      have hdb : Wb.heap[w.heap.size]? = some (.deferred (some [])) := by rw [hWb]; exact (put_block _ _ _ _ (by omega) (by omega)).trans hd
      have hkb : Lie S W Wb := fun k hk => by rw [hWb]; exact put_block _ _ _ _ (by have := hS k hk; omega) (by have := hS k hk; omega)
      refine wpIn_mono (hbody _ pre x Wb hib (by have := hgb.size; omega) hG) ?_
      rintro e a3 W3 hp
      cases e with
      | normal =>
        obtain ⟨hk3, hkp3, hi3⟩ := hp
        have hl3 := hk3.same _ _ (by omega) hlb rfl
        have hd3 := hk3.same _ _ (Nat.le_refl _) hdb rfl
        have hz3 := hk3.size
        have hzb := hgb.size
        have hr := run_endRound (P := Tryz.prog) none hl3
        rw [hrc] at hr
        refine ⟨_, _, hr, rfl, ⟨⟨hI _ _ _ _ hi3 (grownBy_putObj' _ _ _) (fun r e => by cases e; exact .inr ⟨by omega, _, hl3, rfl⟩), ?_⟩, ?_, ?_⟩, ?_⟩
        · have := (grownBy_putObj' W3 (w.heap.size + 1) (.loop (rc .ready))).size
          rw [hrc] at this
          simp at this ⊢
          omega
        · rw [hrc]; exact World.putObj_heap_same (by omega)
        · exact (put_block _ _ _ _ (by omega) (by omega)).trans hd3
        · exact hkb.trans (hkp3.trans (fun k hk => put_block _ _ _ _ (by have := hS k hk; omega) (by have := hS k hk; omega)))
      | ret => exact hp.2.elim
      | exit id => exact hp.2.elim
      | goto t => exact hp.2.elim
      | panic ch => exact hp.elim
      | outgrown => exact hp.elim
    · rintro e W2 ⟨⟨v, rfl⟩, ⟨hi, hz⟩, hl, hd⟩
      have hr := run_endLoop (P := Tryz.prog) hl (by rw [hrc]; simp)
      rw [hrc] at hr
      exact ⟨none, _, hr, hdone _ _ (Nat.le_refl _) (hI _ _ _ _ hi (grownBy_putObj' _ _ _) (fun r e => by cases e; exact .inr ⟨by omega, _, hl, rfl⟩)) ((put_block _ _ _ _ (by omega) (by omega)).trans hd)⟩
end Go.Proofs.YtcognpibphpadaaGreatDoor
