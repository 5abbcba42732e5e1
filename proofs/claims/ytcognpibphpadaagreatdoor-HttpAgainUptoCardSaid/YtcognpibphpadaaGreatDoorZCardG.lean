/- PROVED HERE: chinoiserielaw05.HttpAgain answers true, and leaves its argument as it was, for all inputs that hold together at most 1048576 values and letters (the second form's card). -/
import Derived.Test.YtcognpibphpadaaGreatDoorZCardT
import Derived.Test.YtcognpibphpadaaGreatDoorZAgain
set_option linter.unusedVariables false
set_option linter.unusedSimpArgs false
namespace Go.Proofs.YtcognpibphpadaaGreatDoor
open Go.ChangeShapes Go.WideShapes Go.ChangeAt Go.RowKit

theorem readable7 : ∀ t ∈ Tryz.f7.params.toList, Tryz.prog.readableRec t = true ∧ t < Tryz.prog.types.size := by
  have h : ([23].all fun t => Tryz.prog.readableRec t && decide (t < Tryz.prog.types.size)) = true := by kernel_rfl
  rw [Tryz.params7]
  intro t ht
  have := List.all_eq_true.1 h t ht
  simpa using this
set_option maxRecDepth 100000 in
theorem results7 : Tryz.f7.resultTypes = #[4] := by kernel_rfl
set_option maxRecDepth 100000 in
/-- A row of bytes that may come in lies in the heap. -/
theorem ok_lt {W : World} {base : Nat} {A : Option Addr} {n c : Nat} (h : Value.okWide Tryz.prog W .any base 23 (.slice A n c)) : ∀ ad, A = some ad → ad.block < W.heap.size := by
  rintro ad rfl
  simp only [Value.okWide, Cell.okWide, Cell.ok, Tryz.underlying23] at h
  obtain ⟨_, _, _, _, row, cells, hs, _⟩ := h
  rcases Nat.lt_or_ge ad.block W.heap.size with h2 | h2
  · exact h2
  · unfold World.shape? at hs
    rw [Array.getElem?_eq_none h2] at hs
    simp at hs
set_option maxRecDepth 100000 in
theorem again_contract (H : Type) (enc : TypeId × Value → H) (W : World) (base : Nat) (args : Array Value) (ds gs : List (DataW H)) (before : List MemPlace)
    (hval : ∀ (j : Nat) t v, Tryz.f7.params[j]? = some t → args[j]? = some v → Value.okWide Tryz.prog W .any base t v)
    (hW : DataW.Whole enc Tryz.prog Tryz.f7.params.toList Rows.httpAgainSpec.vars false W args.toList ds gs before) (hk : Rows.uptoBulkAll (ds ++ gs) ≤ 1048576) (hg : Glob W) (ht : Tab10 W) :
    Calls Tryz.prog 7 args W fun e W' => ∃ v, e = .returned v ∧ Rows.httpAgainSpec.post enc Tryz.prog Tryz.f7 false true false false W args v W' := by
  have hW' := hW
  have hlt := fun x hx => hW.lt x hx
  obtain ⟨p, q, hA0, hV, rfl, hfz, hnd⟩ := hW
  have hA : DataW.TrodAll enc Tryz.prog W 0 (fun _ => true) true Tryz.f7.params.toList args.toList ds p := hA0
  have hA2 := hA
  rw [Tryz.params7] at hA hval
  obtain ⟨v0, vs0, d0, ds0, p0, q0, hargs, rfl, rfl, h0, r0⟩ := trodAll_cons hA
  obtain ⟨rfl, rfl, rfl⟩ := trodAll_nil r0
  obtain rfl : args = #[v0] := by cases args; simp_all
  obtain ⟨rfl, rfl⟩ := trodVars_none hV
  simp only [List.append_nil] at hW' hlt
  obtain ⟨fuel, hf⟩ := h0
  obtain ⟨A, l, c, hcs, hB, hc, hAl, hn⟩ := bytes_open hf (fun y hy => hlt y (by simpa using hy))
  obtain ⟨a', n', c', rfl⟩ := okWide_slice Tryz.underlying23 (hval 0 23 v0 rfl rfl)
  have hcs2 : Value.slice a' n' c' = .slice A l.length c := List.head_eq_of_cons_eq (show [Value.slice a' n' c'] = [Value.slice A l.length c] from hcs)
  injection hcs2 with e1 e2 e3
  rw [e1, e2, e3] at hval hW' hA2 ⊢
  have hd : Rows.uptoBulk d0 ≤ 1048576 := by
    have := bulk_part (H := H) (d := d0) (l := [d0] ++ []) (by simp)
    exact Nat.le_trans this hk
  refine (again_calls A l c W hB hc (ok_lt (hval 0 23 _ rfl rfl)) hg ht (Nat.le_trans hn hd)).mono fun e W' ⟨he, hl⟩ => ?_
  subst he
  exact ⟨_, rfl, post_true hW' rfl hA2 (fun x hx => hlt x (by simpa using hx)) readable7 results7 rfl hl.out⟩

/-- The witness's arguments. -/
def againArgs : Array Value := #[.slice none 0 0]
noncomputable def againWorld (os : Os) : World := World.laidAll Tryz.prog os Rows.httpAgainUptoRow.laid
theorem again_laid (os : Os) : laidMet Tryz.prog Rows.httpAgainUptoRow.laid ((againWorld os).forCall (fun _ _ => 0) ⟨#[], againArgs, []⟩).memory := laidMet_laidAll _ (by kernel_rfl) (by kernel_rfl)
theorem again_reads (os : Os) {H : Type} (enc : TypeId × Value → H) : ∃ places, DataW.whole enc Tryz.prog ((againWorld os).forCall (fun _ _ => 0) ⟨#[], againArgs, []⟩).memory Tryz.f7.params.toList Rows.httpAgainSpec.vars false againArgs.toList 8 =
    some ([.nil], [], places) := ⟨[], by kernel_rfl⟩

set_option maxRecDepth 100000 in
theorem again_lifted (os : Os) (started : os.Started) (H : Type) (enc : TypeId × Value → H) (F : Stop.Interp) :
    ReturnsInHanded {} Tryz.checked os 7 .any ((Rows.OpenSpec.upto Rows.httpAgainSpec).preRow enc Tryz.prog Tryz.f7 Rows.httpAgainUptoRow.domain false Rows.httpAgainUptoRow.laid) (((Rows.OpenSpec.upto Rows.httpAgainSpec).at F).post enc Tryz.prog Tryz.f7 false true false false) := by
  obtain ⟨places, hx⟩ := again_reads os enc
  refine returnsInHanded_of_row (C := Tryz.checked) (s := Rows.OpenSpec.upto Rows.httpAgainSpec) own started (by kernel_rfl) Tryz.func7
    (witness_row_at (enc := enc) (C := Tryz.checked) false (againWorld os) againArgs (World.laidAll_os _ _ _) (by kernel_rfl) (by kernel_rfl) (by kernel_rfl)
      (OpenSpec.preRow_of_cond 8 hx (by kernel_rfl) (fun k hk => by cases hk; kernel_rfl) (by kernel_rfl) (again_laid os))) ?_
  intro W base args ds gs before hval hW _ hcond _ hL hsh _
  rw [MakeChecks.laidMetH_plain _ _ _ (by kernel_rfl)] at hL
  have hk := hcond _ rfl
  exact again_contract H enc W base args ds gs before hval hW (of_decide_eq_true hk) (glob_of hL hsh (List.mem_of_getElem? (i := 7) rfl) (List.mem_of_getElem? (i := 5) rfl)) (tab_of hL (List.mem_of_getElem? (i := 2) rfl))

theorem again_said : Rows.HttpAgainUptoSaid :=
  OpenClaim.holds_of_cond 7 Tryz.f7 rfl rfl rfl rfl rfl rfl rfl ⟨rfl, rfl, rfl, rfl, rfl⟩ rfl rfl rfl rfl rfl (by kernel_rfl) Tryz.func7 (by kernel_rfl)
    (of_decide_eq_true (by kernel_rfl)) (by unfold Func.isWrapper; first | (rw [if_pos (by decide +kernel)]; kernel_rfl) | (rw [if_neg (by decide +kernel)]; exact ⟨rfl, rfl⟩))
    (fun os started H enc _ F => by rw [OpenClaim.pre_eq_preRow]; exact again_lifted os started H enc F)

theorem again_plain (f : FuncId) (fn : Func) (hf : Tryz.pinned.checked.prog.funcNamed "chinoiserie/chinoiserielaw05.HttpAgain" = some f) (hfn : Tryz.pinned.checked.prog.funcs[f]? = some fn) :
    true = Tryz.pinned.checked.prog.looks [] ∧ ∀ (j : Nat) t, fn.params[j]? = some t → Tryz.pinned.checked.prog.wantsStandIn t = false := by
  obtain rfl : f = 7 := Option.some.inj ((show Tryz.prog.funcNamed "chinoiserie/chinoiserielaw05.HttpAgain" = some 7 by kernel_rfl).symm.trans hf) |>.symm
  obtain rfl : fn = Tryz.f7 := (Option.some.inj (Tryz.func7.symm.trans hfn)).symm
  refine ⟨by kernel_rfl, fun j t ht => ?_⟩
  rw [Tryz.params7] at ht
  have hm : t ∈ [23] := by simpa using Array.mem_of_getElem? ht
  have hall : ([23].all fun u => !Tryz.prog.wantsStandIn u) = true := by kernel_rfl
  exact (show Tryz.prog.wantsStandIn t = false by simpa using List.all_eq_true.1 hall t hm)

/-- THE SECOND FORM's CARD. -/
theorem httpAgain_holds : Rows.HttpAgainUptoCardSaid :=
  Claim7.holds_tied_plain_at .later [] _ _ _ _ again_said (fun _ h => by cases h) (by kernel_rfl) (fun _ h => by cases h) httpAgainUpto_row_tie rfl ⟨rfl, rfl⟩ (by kernel_rfl) rfl again_plain (by kernel_rfl)
#print axioms httpAgain_holds
end Go.Proofs.YtcognpibphpadaaGreatDoor
