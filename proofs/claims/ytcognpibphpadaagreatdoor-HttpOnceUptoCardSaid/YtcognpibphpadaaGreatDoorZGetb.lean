/- head.Get. -/
import Derived.Test.YtcognpibphpadaaGreatDoorZGet
set_option linter.unusedVariables false
set_option linter.unusedSimpArgs false
namespace Go.Proofs.YtcognpibphpadaaGreatDoor
open Go.RowKit Go.Shelf
attribute [local go_sem] Oper.semAt_some

def ofName (l : List Hd) (nm : B) : List Hd := l.filter fun h => alike h.1 nm
/-- The first one's value. -/
def firstV : List Hd → B
  | [] => []
  | h :: _ => h.2

set_option maxHeartbeats 8000000 in
set_option maxRecDepth 100000 in
theorem get_calls (A : Option Addr) (l : List Hd) (c : Nat) (nm : B) (w : World) (hh : Hds w A l) (hA : ∀ ad, A = some ad → ad.block < w.heap.size) (hlen : l.length ≤ 1048576) :
    Calls Tryz.prog 73 #[.slice A l.length c, .string (bs nm)] w fun e w' => e = .returned (.tuple #[.string (bs (firstV (ofName l nm))), .int .i64 ((ofName l nm).length : Int)]) ∧ Low w.heap.size w w' := by
  have hmf : ∀ (fn : Fn) (first cap : Array Value) (w : World), (Instr.makeFunc fn first cap).run Tryz.prog w = .ok (.func fn first cap) w := fun _ _ _ _ => rfl
  refine (callsIn_wide (n := 4)).1 ?_
  refine callsIn_of_wp_marks Tryz.func73 rfl trivial ?_ rfl
  simp only [Tryz.ntmps73, List.size_toArray, List.length_cons, List.length_nil, Nat.reduceAdd, Nat.reduceSub, Array.replicate_succ, Array.replicate_zero, List.push_toArray, List.append_toArray, List.nil_append, List.cons_append]
  gi_wp2_with fail
  refine ⟨trivial, ?_⟩
  refine (callsIn_wide.2 (others_calls _ _ _ _ _ _)).mono ?_
  rintro e w' ⟨rfl, rfl⟩
  gi_wp2
  obtain ⟨W0, hW0⟩ : ∃ W0, (((((w.alloc (.cells #[.string (bs nm)] 9)).alloc (.cells #[.string ⟨#[]⟩] 9)).alloc (.cells #[.int .i64 0] 3)).alloc (.cells #[.slice A l.length c] 27)).alloc (.cells #[.func (.func 125) #[] #[.pointer (some ⟨w.heap.size, 0, none⟩)]] 108)) = W0 := ⟨_, rfl⟩
  have bN : Boxed W0 w.heap.size 9 (.string (bs nm)) := by rw [← hW0]; exact ((((Boxed.new w 9 _).alloc _).alloc _).alloc _).alloc _
  have bV : Boxed W0 (w.heap.size + 1) 9 (.string ⟨#[]⟩) := by rw [← hW0]; have h := (((Boxed.new (w.alloc (.cells #[.string (bs nm)] 9)) 9 (.string ⟨#[]⟩)).alloc (.cells #[.int .i64 0] 3)).alloc (.cells #[.slice A l.length c] 27)).alloc (.cells #[.func (.func 125) #[] #[.pointer (some ⟨w.heap.size, 0, none⟩)]] 108); simpa only [World.size_alloc] using h
  have bM : Boxed W0 (w.heap.size + 1 + 1) 3 (.int .i64 0) := by rw [← hW0]; have h := ((Boxed.new ((w.alloc (.cells #[.string (bs nm)] 9)).alloc (.cells #[.string ⟨#[]⟩] 9)) 3 (.int .i64 0)).alloc (.cells #[.slice A l.length c] 27)).alloc (.cells #[.func (.func 125) #[] #[.pointer (some ⟨w.heap.size, 0, none⟩)]] 108); simpa only [World.size_alloc] using h
  have bS : Boxed W0 (w.heap.size + 1 + 1 + 1) 27 (.slice A l.length c) := by rw [← hW0]; have h := (Boxed.new (((w.alloc (.cells #[.string (bs nm)] 9)).alloc (.cells #[.string ⟨#[]⟩] 9)).alloc (.cells #[.int .i64 0] 3)) 27 (.slice A l.length c)).alloc (.cells #[.func (.func 125) #[] #[.pointer (some ⟨w.heap.size, 0, none⟩)]] 108); simpa only [World.size_alloc] using h
  have bF : Boxed W0 (w.heap.size + 1 + 1 + 1 + 1) 108 (.func (.func 125) #[] #[.pointer (some ⟨w.heap.size, 0, none⟩)]) := by rw [← hW0]; have h := Boxed.new ((((w.alloc (.cells #[.string (bs nm)] 9)).alloc (.cells #[.string ⟨#[]⟩] 9)).alloc (.cells #[.int .i64 0] 3)).alloc (.cells #[.slice A l.length c] 27)) 108 (.func (.func 125) #[] #[.pointer (some ⟨w.heap.size, 0, none⟩)]); simpa only [World.size_alloc] using h
  have hB0 : Below w.heap.size w W0 := by rw [← hW0]; exact (((((Below.refl _ w).alloc (Nat.le_refl _) _).alloc (by simp) _).alloc (by simp; omega) _).alloc (by simp; omega) _).alloc (by simp; omega) _
  have hsz : W0.heap.size = w.heap.size + 5 := by rw [← hW0]; simp
  rw [hW0]
  clear hW0
  have hseq : SeqStopsK Fence.wide 3 Tryz.prog 160 #[.pointer (some ⟨w.heap.size + 1 + 1 + 1, 0, none⟩), .pointer (some ⟨w.heap.size + 1 + 1 + 1 + 1, 0, none⟩)] encHd (KpS W0.heap.size (fun k => k = w.heap.size + 1 ∨ k = w.heap.size + 1 + 1)) (fun xs => xs = ofName l nm) (fun pre => pre <+: ofName l nm) l.length W0 := by
    intro lp J Jx W hW hJ _ hY h0
    have hL : Low W0.heap.size W0 W := ⟨hW⟩
    refine (others1_in 3 (by omega) lp _ _ w.heap.size W0.heap.size _ A c l nm J Jx hlen W hW.size hJ hY ?_ ?_ ⟨by omega, by omega⟩ ?_ ⟨by omega, by omega⟩ ?_ ?_ h0)
    · exact (hL.cell (p := ⟨w.heap.size + 1 + 1 + 1, 0, none⟩) (by show w.heap.size + 1 + 1 + 1 < W0.heap.size; omega)).trans bS.cell
    · exact (hL.cell (p := ⟨w.heap.size + 1 + 1 + 1 + 1, 0, none⟩) (by show w.heap.size + 1 + 1 + 1 + 1 < W0.heap.size; omega)).trans bF.cell
    · exact (hL.cell (p := ⟨w.heap.size, 0, none⟩) (by show w.heap.size < W0.heap.size; omega)).trans bN.cell
    · exact (hh.far (b := w.heap.size) ⟨hB0⟩ hA).far hL (fun ad e => by have := hA ad e; omega)
    · intro ad e; have := hA ad e; exact ⟨by omega, by omega⟩
  refine wpIn_rangeFunc_ownH (F := Fence.wide) (n := 4) (encs := encHd) rfl (by omega) (gf := 160) (lb := #[.pointer (some ⟨w.heap.size + 1 + 1 + 1, 0, none⟩), .pointer (some ⟨w.heap.size + 1 + 1 + 1 + 1, 0, none⟩)]) rfl trivial (enters_of Tryz.func160 (by kernel_rfl) rfl)
    hseq KpS.trans (KpS.put W0 (Nat.le_refl _)) (Below.refl _ _) (fun _ => rfl)
    (fun pre W => (Boxed W (w.heap.size + 1) 9 (.string (bs (firstV pre))) ∧ Boxed W (w.heap.size + 1 + 1) 3 (.int .i64 (pre.length : Int))) ∧ (Below w.heap.size w W ∧ W0.heap.size ≤ W.heap.size))
    (fun _ _ _ => False)
    (OwnFrom.and (OwnFrom.and (Own.from (boxed_own _ _ _) _) (Own.from (boxed_own _ _ _) _)) (OwnFrom.and (ownFrom_below (Nat.le_refl _) (by omega)) (fun _ _ _ _ hs hg _ => Nat.le_trans hs hg.size)))
    (fun _ _ _ _ _ hs _ _ => hs)
    ⟨⟨bV, bM⟩, hB0, Nat.le_refl _⟩
    (fun x a' W => ∃ Bx, w.heap.size + 1 + 1 < Bx ∧ HBlk W Bx (bs x.1) (bs x.2) ∧ a' = { tmps := #[.slice A l.length c, .string (bs nm), undef, .pointer (some ⟨w.heap.size, 0, none⟩), .pointer (some ⟨w.heap.size + 1, 0, none⟩), .pointer (some ⟨w.heap.size + 1 + 1, 0, none⟩), .pointer (some ⟨Bx, 0, none⟩), .slice A l.length c, .func (.func 125) #[] #[.pointer (some ⟨w.heap.size, 0, none⟩)], .func (.func 160) #[] #[.pointer (some ⟨w.heap.size + 1 + 1 + 1, 0, none⟩), .pointer (some ⟨w.heap.size + 1 + 1 + 1 + 1, 0, none⟩)], .agg #[.string (bs x.1), .string (bs x.2)], undef, undef, undef, undef, undef, undef, undef, undef], defers := [] })
    (fun x a' _ X Y row hs hg hr => by
      obtain ⟨Bx, h1, h2, h3⟩ := hs
      refine ⟨Bx, h1, ⟨(hg.block Bx h2.lt (fun e' => ?_)).trans h2.out⟩, h3⟩
      obtain ⟨-, o, ho, hc⟩ := hr Bx e'.symm
      rw [h2.out] at ho
      cases ho
      cases hc)
    ?assign ?body ?done ?stop
  case assign =>
    rintro lp pre x W K ⟨⟨bV1, bM1⟩, hB1, hz1⟩ hK
    dsimp only [encHd]
    gi_wp2
    exact hK _ _ ((KeepsOthers.alloc _ _).from _) (KpS.low ((Low.refl W.heap.size W).alloc (Nat.le_refl _) _) hz1) ⟨⟨bV1.alloc _, bM1.alloc _⟩, hB1.alloc hB1.size _, by simp; omega⟩ ⟨W.heap.size, bM1.lt, ⟨heap_alloc_new W _⟩, rfl⟩
  case body =>
    rintro lp pre x a' W hl _ ⟨⟨bV1, bM1⟩, hB1, hz1⟩ ⟨Bx, hBx, hX, rfl⟩ hlt
    have cM := bM1.cell
    have fM := bM1.frozen
    have cV := bV1.cell
    have fV := bV1.frozen
    have cX := hX.c1
    cases pre with
    | nil =>
      simp only [List.length_nil] at cM
      gi_wp2
      refine ⟨((KeepsOthers.setCell _ _ _).trans (KeepsOthers.setCell _ _ _)).from _, ⟨by simp [World.setCell], fun k _ hS => ?_⟩, ⟨(bV1.other (by omega) _).set _, ((bM1.set _).other (by omega) _)⟩, (hB1.setCell (p := ⟨w.heap.size + 1 + 1, 0, none⟩) (by show w.heap.size ≤ w.heap.size + 1 + 1; omega) _).setCell (p := ⟨w.heap.size + 1, 0, none⟩) (by show w.heap.size ≤ w.heap.size + 1; omega) _, by simpa [World.setCell] using hz1⟩
      rw [Below.heap_setCell _ _ _ _ (fun e => hS (.inl e)), Below.heap_setCell _ _ _ _ (fun e => hS (.inr e))]
    | cons h0 pre' =>
      have hne : ((((h0 :: pre').length : Nat) : Int) + 1 == 1) = false := by rw [beq_eq_false_iff_ne]; simp; omega
      have HF := Lib.hid (show firstV ((h0 :: pre') ++ [x]) = firstV (h0 :: pre') from rfl)
      have HN := Lib.hid (show ((((h0 :: pre') ++ [x]).length : Nat) : Int) = (((h0 :: pre').length : Nat) : Int) + 1 by simp)
      generalize h0 :: pre' = pp at *
      have hpl : (pp.length : Int) ≤ 1048576 := by omega
      gi_wp2
      refine ⟨(KeepsOthers.setCell _ _ _).from _, ⟨by simp [World.setCell], fun k _ hS => ?_⟩, ⟨by rw [HF.out]; exact bV1.other (by omega) _, by rw [HN.out]; exact bM1.set _⟩, hB1.setCell (p := ⟨w.heap.size + 1 + 1, 0, none⟩) (by show w.heap.size ≤ w.heap.size + 1 + 1; omega) _, by simpa [World.setCell] using hz1⟩
      rw [Below.heap_setCell _ _ _ _ (fun e => hS (.inr e))]
  case done =>
    rintro D xs W hD rfl ⟨⟨bV1, bM1⟩, hB1, hz1⟩ hK
    have cM := bM1.cell
    have fM := bM1.frozen
    have cV := bV1.cell
    have fV := bV1.frozen
    gi_wp2
    gi_region
    gi_wp2
    have hK1 : ((W.setCell ⟨w.heap.size + 1, 0, none⟩ (.string (bs (firstV (ofName l nm))))).setCell ⟨w.heap.size + 1 + 1, 0, none⟩ (.int .i64 ((ofName l nm).length : Int))).drew.heap[D]? = some (.deferred (some [])) := by
      show ((W.setCell ⟨w.heap.size + 1, 0, none⟩ (.string (bs (firstV (ofName l nm))))).setCell ⟨w.heap.size + 1 + 1, 0, none⟩ (.int .i64 ((ofName l nm).length : Int))).heap[D]? = _
      rw [Below.heap_setCell _ _ _ _ (by show D ≠ w.heap.size + 1 + 1; omega), Below.heap_setCell _ _ _ _ (by show D ≠ w.heap.size + 1; omega)]
      exact hK
    have bV2 : Boxed ((W.setCell ⟨w.heap.size + 1, 0, none⟩ (.string (bs (firstV (ofName l nm))))).setCell ⟨w.heap.size + 1 + 1, 0, none⟩ (.int .i64 ((ofName l nm).length : Int))).drew (w.heap.size + 1) 9 (.string (bs (firstV (ofName l nm)))) := (bV1.set (.string (bs (firstV (ofName l nm))))).other (by omega) (.int .i64 ((ofName l nm).length : Int))
    have bM2 : Boxed ((W.setCell ⟨w.heap.size + 1, 0, none⟩ (.string (bs (firstV (ofName l nm))))).setCell ⟨w.heap.size + 1 + 1, 0, none⟩ (.int .i64 ((ofName l nm).length : Int))).drew (w.heap.size + 1 + 1) 3 (.int .i64 ((ofName l nm).length : Int)) := (bM1.other (by omega) (.string (bs (firstV (ofName l nm))))).set (.int .i64 ((ofName l nm).length : Int))
    have hB2 : Below w.heap.size w ((W.setCell ⟨w.heap.size + 1, 0, none⟩ (.string (bs (firstV (ofName l nm))))).setCell ⟨w.heap.size + 1 + 1, 0, none⟩ (.int .i64 ((ofName l nm).length : Int))).drew := ((hB1.setCell (p := ⟨w.heap.size + 1, 0, none⟩) (by show w.heap.size ≤ w.heap.size + 1; omega) _).setCell (p := ⟨w.heap.size + 1 + 1, 0, none⟩) (by show w.heap.size ≤ w.heap.size + 1 + 1; omega) _).drew
    generalize ((W.setCell ⟨w.heap.size + 1, 0, none⟩ (.string (bs (firstV (ofName l nm))))).setCell ⟨w.heap.size + 1 + 1, 0, none⟩ (.int .i64 ((ofName l nm).length : Int))).drew = W2 at *
    refine ⟨by simp, .inl ⟨_, _, rfl, run_takeDeferred hK1, ?_⟩⟩
    have bV3 := bV2.kept (grownBy_putObj' W2 D (.deferred none)) (fun e => by injection e with e; omega)
    have bM3 := bM2.kept (grownBy_putObj' W2 D (.deferred none)) (fun e => by injection e with e; omega)
    have cV3 := bV3.cell
    have cM3 := bM3.cell
    have hB3 : Below w.heap.size w (W2.putObj D (.deferred none)) := hB2.grown (grownBy_putObj' W2 D (.deferred none)) hB2.size (fun k e => by cases e; omega)
    refine ⟨.tuple #[.string (bs (firstV (ofName l nm))), .int .i64 ((ofName l nm).length : Int)], ?_, rfl, ⟨hB3⟩⟩
    simp [results, Tryz.results73, go_sem, cV3, cM3]
  case stop =>
    rintro D cc pre W _ _ h _
    exact h.elim
end Go.Proofs.YtcognpibphpadaaGreatDoor
