/- PROVED HERE: chinoiserielaw05.HttpOnce answers true, and leaves its arguments as they were, for all inputs that hold together at most 1048576 values and letters (the second form's card). -/
import Derived.Test.YtcognpibphpadaaGreatDoorZCardT
import Derived.Test.YtcognpibphpadaaGreatDoorZOnceW
set_option linter.unusedVariables false
set_option linter.unusedSimpArgs false
namespace Go.Proofs.YtcognpibphpadaaGreatDoor
open Go.ChangeShapes Go.WideShapes Go.ChangeAt Go.RowKit

theorem gBitN : Tryz.prog.globalNamed "math/bits.deBruijn64tab" = some 9 := by kernel_rfl
theorem gBitT : (Tryz.prog.globals[9]?).map (·.type) = some 228 := by kernel_rfl
theorem cells228 : Tryz.prog.cellsOf 228 = 64 := by kernel_rfl
/-- The numbers of a row of numbers, as read. -/
def zsOf : DataW Unit → List Int
  | .agg l => l.map fun
    | .lit (.int _ n) => n
    | _ => 0
  | _ => []
theorem bitsData : (Rows.laid_math_bits_deBruijn64tab : DataW Unit) = Lib.tabData .u8 (zsOf Rows.laid_math_bits_deBruijn64tab) := by rfl
theorem bits15 : (zsOf Rows.laid_math_bits_deBruijn64tab)[15]? = some 4 := by rfl
theorem tabd_of {W : World} {laid : List (String × DataW Unit)} (h : laidMet Tryz.prog laid W) (m : ("math/bits.deBruijn64tab", Rows.laid_math_bits_deBruijn64tab) ∈ laid) : TabD W := by
  obtain ⟨ps, hl, _⟩ := h
  obtain ⟨g, t, cs, fuel, p, h1, h2, h3, h4⟩ := laid_mem hl m
  obtain rfl := Option.some.inj (gBitN.symm.trans h1)
  obtain rfl := Option.some.inj (gBitT.symm.trans h2)
  rw [bitsData] at h4
  have hc := Lib.cells_of_tab (k := .u8) Tryz.underlying228 Tryz.underlying5 cells5 cells228 h4
  have e : ∀ i : Nat, cs[i]? = cs.toList[i]? := fun i => by simp
  refine ⟨?_⟩
  rw [World.var?_cell gBitN h3 15, e, hc, List.getElem?_map, bits15]
  rfl
theorem readable8 : ∀ t ∈ Tryz.f8.params.toList, Tryz.prog.readableRec t = true ∧ t < Tryz.prog.types.size := by
  have h : ([25, 72, 23].all fun t => Tryz.prog.readableRec t && decide (t < Tryz.prog.types.size)) = true := by kernel_rfl
  rw [Tryz.params8]
  intro t ht
  have := List.all_eq_true.1 h t ht
  simpa using this
set_option maxRecDepth 100000 in
theorem results8 : Tryz.f8.resultTypes = #[4] := by kernel_rfl
theorem cells72 : Tryz.prog.cellsOf 72 = 2 := by kernel_rfl
theorem list2 {α : Type} (l : List α) (h : l.length = 2) : ∃ c0 c1, l = [c0, c1] := by
  match l, h with
  | [c0, c1], _ => exact ⟨c0, c1, rfl⟩
set_option maxRecDepth 100000 in
/-- A row of bytes that may come in lies in the heap. -/
theorem ok_lt2 {W : World} {base : Nat} {A : Option Addr} {n c : Nat} (h : Value.okWide Tryz.prog W .any base 23 (.slice A n c)) : ∀ ad, A = some ad → ad.block < W.heap.size := by
  rintro ad rfl
  simp only [Value.okWide, Cell.okWide, Cell.ok, Tryz.underlying23] at h
  obtain ⟨_, _, _, _, row, cells, hs, _⟩ := h
  rcases Nat.lt_or_ge ad.block W.heap.size with h2 | h2
  · exact h2
  · unfold World.shape? at hs
    rw [Array.getElem?_eq_none h2] at hs
    simp at hs
set_option maxRecDepth 100000 in
theorem ok_none {W : World} {base : Nat} {A : Option Addr} {n c : Nat} (h : Value.okWide Tryz.prog W .any base 23 (.slice A n c)) : A = none → c = 0 := by
  rintro rfl
  cases c with
  | zero => rfl
  | succ c =>
    simp only [Value.okWide, Cell.okWide, Cell.ok, Tryz.underlying23] at h
set_option maxRecDepth 100000 in
/-- Two numbers, opened. -/
theorem two_open {H : Type} {enc : TypeId × Value → H} {W : World} {base : Nat} {v : Value} {d : DataW H} {p : List MemPlace} (hv : Value.okWide Tryz.prog W .any base 72 v) (h : DataW.Trod enc Tryz.prog W 0 (fun _ => true) true 72 v d p) :
    ∃ q0 q1 : Int, v = .agg #[.int .i64 q0, .int .i64 q1] := by
  have hv2 := hv
  simp only [Value.okWide, Tryz.underlying72] at hv2
  obtain ⟨cs, rfl, hsz, _⟩ := hv2
  obtain ⟨l⟩ := cs
  have hl : l.length = 2 := by rw [← cells72, ← hsz]; rfl
  obtain ⟨c0, c1, rfl⟩ := list2 l hl
  obtain ⟨fuel, hf⟩ := h
  obtain ⟨xs, m, _, hx, _, hlen, hel⟩ := DataW.trod_array Tryz.underlying72 hf
  have g : ∀ i, i < 2 → ∃ y, DataW.trod enc Tryz.prog W 0 (fun _ => true) true m 3 (([c0, c1].drop i).take 1) = some y := fun i hi => by
    have := hel i hi
    rw [cells3, Nat.mul_one, List.getElem?_eq_getElem (by omega)] at this
    exact ⟨_, this⟩
  obtain ⟨y0, g0⟩ := g 0 (by omega)
  obtain ⟨y1, g1⟩ := g 1 (by omega)
  obtain ⟨q0, e0⟩ := int_open g0
  obtain ⟨q1, e1⟩ := int_open g1
  simp at e0 e1
  subst e0 e1
  exact ⟨q0, q1, rfl⟩
set_option maxRecDepth 100000 in
theorem once_contract (H : Type) (enc : TypeId × Value → H) (W : World) (base : Nat) (args : Array Value) (ds gs : List (DataW H)) (before : List MemPlace)
    (hval : ∀ (j : Nat) t v, Tryz.f8.params[j]? = some t → args[j]? = some v → Value.okWide Tryz.prog W .any base t v)
    (hW : DataW.Whole enc Tryz.prog Tryz.f8.params.toList Rows.httpOnceSpec.vars false W args.toList ds gs before) (hk : Rows.uptoBulkAll (ds ++ gs) ≤ 1048576) (hg : Glob W) (ht : Tab10 W) (hd0 : TabD W) :
    Calls Tryz.prog 8 args W fun e W' => ∃ v, e = .returned v ∧ Rows.httpOnceSpec.post enc Tryz.prog Tryz.f8 false true false false W args v W' := by
  have hW' := hW
  have hlt := fun x hx => hW.lt x hx
  obtain ⟨p, q, hA0, hV, rfl, hfz, hnd⟩ := hW
  have hA : DataW.TrodAll enc Tryz.prog W 0 (fun _ => true) true Tryz.f8.params.toList args.toList ds p := hA0
  have hA2 := hA
  rw [Tryz.params8] at hA hval
  obtain ⟨v0, vs0, d0, ds0, p0, q0, hargs, rfl, rfl, h0, r0⟩ := trodAll_cons hA
  obtain ⟨v1, vs1, d1, ds1, p1, q1, rfl, rfl, rfl, h1, r1⟩ := trodAll_cons r0
  obtain ⟨v2, vs2, d2, ds2, p2, q2, rfl, rfl, rfl, h2, r2⟩ := trodAll_cons r1
  obtain ⟨rfl, rfl, rfl⟩ := trodAll_nil r2
  obtain rfl : args = #[v0, v1, v2] := by cases args; simp_all
  obtain ⟨rfl, rfl⟩ := trodVars_none hV
  simp only [List.append_nil] at hW' hlt
  obtain ⟨x, VA, BA, vc, bc, rfl, hs, hb, hbc, l1, l2, l3, l4, l5⟩ := seed_open (hval 0 25 v0 rfl rfl) h0 (fun y hy => hlt y (by simp [hy]))
  obtain ⟨n0, n1, rfl⟩ := two_open (hval 1 72 v1 rfl rfl) h1
  obtain ⟨fuel, hf⟩ := h2
  obtain ⟨A, l, c, hcs, hB, hc, hAl, hn⟩ := bytes_open hf (fun y hy => hlt y (by simp [hy]))
  obtain ⟨a', n', c', rfl⟩ := okWide_slice Tryz.underlying23 (hval 2 23 v2 rfl rfl)
  have hcs2 : Value.slice a' n' c' = .slice A l.length c := List.head_eq_of_cons_eq (show [Value.slice a' n' c'] = [Value.slice A l.length c] from hcs)
  injection hcs2 with e1 e2 e3
  rw [e1, e2, e3] at hval hW' hA2 ⊢
  have hd : Rows.uptoBulk d0 ≤ 1048576 := by
    have := bulk_part (H := H) (d := d0) (l := [d0, d1, d2] ++ []) (by simp)
    exact Nat.le_trans this hk
  have hd2 : Rows.uptoBulk d2 ≤ 1048576 := by
    have := bulk_part (H := H) (d := d2) (l := [d0, d1, d2] ++ []) (by simp)
    exact Nat.le_trans this hk
  refine (once_calls x n0 n1 VA BA A vc bc c l W hs hb hbc (by omega) (by omega) (fun v hv => Nat.le_trans (l3 v hv) hd) (by omega) (by omega) hB hc (ok_none (hval 2 23 _ rfl rfl)) (Nat.le_trans hn hd2) (ok_lt2 (hval 2 23 _ rfl rfl)) hg ht hd0).mono fun e W' ⟨he, hl⟩ => ?_
  subst he
  exact ⟨_, rfl, post_true hW' rfl hA2 (fun x hx => hlt x (by simpa using hx)) readable8 results8 rfl hl.out⟩

/-- The witness's arguments. -/
def onceArgs : Array Value := #[.agg #[.int .i64 0, .int .i64 0, .string ⟨#[]⟩, .string ⟨#[]⟩, .slice none 0 0, .slice none 0 0], .agg #[.int .i64 0, .int .i64 0], .slice none 0 0]
noncomputable def onceWorld (os : Os) : World := World.laidAll Tryz.prog os Rows.httpOnceUptoRow.laid
theorem once_laid (os : Os) : laidMet Tryz.prog Rows.httpOnceUptoRow.laid ((onceWorld os).forCall (fun _ _ => 0) ⟨#[], onceArgs, []⟩).memory := laidMet_laidAll _ (by kernel_rfl) (by kernel_rfl)
theorem once_reads (os : Os) {H : Type} (enc : TypeId × Value → H) : ∃ places, DataW.whole enc Tryz.prog ((onceWorld os).forCall (fun _ _ => 0) ⟨#[], onceArgs, []⟩).memory Tryz.f8.params.toList Rows.httpOnceSpec.vars false onceArgs.toList 8 =
    some ([.agg [.lit (.int .i64 0), .lit (.int .i64 0), .lit (.string []), .lit (.string []), .nil, .nil], .agg [.lit (.int .i64 0), .lit (.int .i64 0)], .nil], [], places) := ⟨[], by kernel_rfl⟩

set_option maxRecDepth 100000 in
theorem once_lifted (os : Os) (started : os.Started) (H : Type) (enc : TypeId × Value → H) (F : Stop.Interp) :
    ReturnsInHanded {} Tryz.checked os 8 .any ((Rows.OpenSpec.upto Rows.httpOnceSpec).preRow enc Tryz.prog Tryz.f8 Rows.httpOnceUptoRow.domain false Rows.httpOnceUptoRow.laid) (((Rows.OpenSpec.upto Rows.httpOnceSpec).at F).post enc Tryz.prog Tryz.f8 false true false false) := by
  obtain ⟨places, hx⟩ := once_reads os enc
  refine returnsInHanded_of_row (C := Tryz.checked) (s := Rows.OpenSpec.upto Rows.httpOnceSpec) own started (by kernel_rfl) Tryz.func8
    (witness_row_at (enc := enc) (C := Tryz.checked) false (onceWorld os) onceArgs (World.laidAll_os _ _ _) (by kernel_rfl) (by kernel_rfl) (by kernel_rfl)
      (OpenSpec.preRow_of_cond 8 hx (by kernel_rfl) (fun k hk => by cases hk; kernel_rfl) (by kernel_rfl) (once_laid os))) ?_
  intro W base args ds gs before hval hW _ hcond _ hL hsh _
  rw [MakeChecks.laidMetH_plain _ _ _ (by kernel_rfl)] at hL
  have hk := hcond _ rfl
  exact once_contract H enc W base args ds gs before hval hW (of_decide_eq_true hk) (glob_of hL hsh (List.mem_of_getElem? (i := 7) rfl) (List.mem_of_getElem? (i := 5) rfl)) (tab_of hL (List.mem_of_getElem? (i := 2) rfl)) (tabd_of hL (List.mem_of_getElem? (i := 1) rfl))

theorem once_said : Rows.HttpOnceUptoSaid :=
  OpenClaim.holds_of_cond 8 Tryz.f8 rfl rfl rfl rfl rfl rfl rfl ⟨rfl, rfl, rfl, rfl, rfl⟩ rfl rfl rfl rfl rfl (by kernel_rfl) Tryz.func8 (by kernel_rfl)
    (of_decide_eq_true (by kernel_rfl)) (by unfold Func.isWrapper; first | (rw [if_pos (by decide +kernel)]; kernel_rfl) | (rw [if_neg (by decide +kernel)]; exact ⟨rfl, rfl⟩))
    (fun os started H enc _ F => by rw [OpenClaim.pre_eq_preRow]; exact once_lifted os started H enc F)

theorem once_plain (f : FuncId) (fn : Func) (hf : Tryz.pinned.checked.prog.funcNamed "chinoiserie/chinoiserielaw05.HttpOnce" = some f) (hfn : Tryz.pinned.checked.prog.funcs[f]? = some fn) :
    true = Tryz.pinned.checked.prog.looks [] ∧ ∀ (j : Nat) t, fn.params[j]? = some t → Tryz.pinned.checked.prog.wantsStandIn t = false := by
  obtain rfl : f = 8 := Option.some.inj ((show Tryz.prog.funcNamed "chinoiserie/chinoiserielaw05.HttpOnce" = some 8 by kernel_rfl).symm.trans hf) |>.symm
  obtain rfl : fn = Tryz.f8 := (Option.some.inj (Tryz.func8.symm.trans hfn)).symm
  refine ⟨by kernel_rfl, fun j t ht => ?_⟩
  rw [Tryz.params8] at ht
  have hm : t ∈ [25, 72, 23] := by simpa using Array.mem_of_getElem? ht
  have hall : ([25, 72, 23].all fun u => !Tryz.prog.wantsStandIn u) = true := by kernel_rfl
  exact (show Tryz.prog.wantsStandIn t = false by simpa using List.all_eq_true.1 hall t hm)

/-- THE SECOND FORM's CARD. -/
theorem httpOnce_holds : Rows.HttpOnceUptoCardSaid :=
  Claim7.holds_tied_plain_at .later [] _ _ _ _ once_said (fun _ h => by cases h) (by kernel_rfl) (fun _ h => by cases h) httpOnceUpto_row_tie rfl ⟨rfl, rfl⟩ (by kernel_rfl) rfl once_plain (by kernel_rfl)
#print axioms httpOnce_holds
end Go.Proofs.YtcognpibphpadaaGreatDoor
