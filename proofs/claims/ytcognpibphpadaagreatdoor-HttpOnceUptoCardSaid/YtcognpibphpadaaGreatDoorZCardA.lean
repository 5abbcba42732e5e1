/- For the cards: what the listed variables give; the readings of the arguments opened; the arguments read again. -/
import Derived.Test.YtcognpibphpadaaGreatDoorCards
import Derived.Test.YtcognpibphpadaaGreatDoorTie
import Derived.Test.YtcognpibphpadaaGreatDoorZWorks
import Derived.ProofKit
import Derived.OpenShut
import Derived.Deep.DeepHandedRow
import Derived.Lib.LaidTab
import Derived.Lib.SmallJoins
import Derived.LaidLaws
import Derived.Carry
import Derived.Lay
import Derived.SevenTiedAt
import Derived.Shelf.Vars
set_option linter.unusedVariables false
set_option linter.unusedSimpArgs false
namespace Go.Proofs.YtcognpibphpadaaGreatDoor
open Go.ChangeShapes Go.WideShapes Go.ChangeAt Go.RowKit

theorem own : ownKnob Tryz.prog.godebug = none := by kernel_rfl
theorem laid_mem {P : Program} {w : World} : ∀ {l : List (String × DataW Unit)} {ps : List MemPlace}, DataW.LaidVars P w l ps → ∀ {n : String} {d : DataW Unit}, (n, d) ∈ l →
    ∃ g t cs fuel p, P.globalNamed n = some g ∧ (P.globals[g]?).map (·.type) = some t ∧ w.var? P n = some cs ∧ DataW.trod (fun _ => ()) P w 0 (fun _ => true) false fuel t cs.toList = some (d, p)
  | [], _, _, n, d, hm => by cases hm
  | (n', d') :: r, ps, h, n, d, hm => by
    obtain ⟨g, t, cs, fuel, p, q, h1, h2, h3, h4, h5, _⟩ := h
    rcases List.mem_cons.1 hm with e | e
    · cases e
      exact ⟨g, t, cs, fuel, p, h1, h2, h3, h4⟩
    · exact laid_mem h5 e
theorem gEnd : Tryz.prog.globalNamed "chinoiserie/http.end" = some 0 := by kernel_rfl
theorem gEndT : (Tryz.prog.globals[0]?).map (·.type) = some 119 := by kernel_rfl
theorem gSyn : Tryz.prog.globalNamed "strconv.ErrSyntax" = some 4 := by kernel_rfl
theorem gSynT : (Tryz.prog.globals[4]?).map (·.type) = some 130 := by kernel_rfl
theorem cells119 : Tryz.prog.cellsOf 119 = 2 := by kernel_rfl
theorem cells5 : Tryz.prog.cellsOf 5 = 1 := by kernel_rfl
/-- What the listed variables hold, out of a row's list that bears them. -/
theorem glob_of {W : World} {laid : List (String × DataW Unit)} (h : laidMet Tryz.prog laid W) (hs : W.ShapedOpen Tryz.prog)
    (m1 : ("chinoiserie/http.end", Rows.laid_chinoiserie_http_end) ∈ laid) (m2 : ("strconv.ErrSyntax", Rows.laid_strconv_ErrSyntax) ∈ laid) : Glob W := by
  obtain ⟨ps, hl, _⟩ := h
  obtain ⟨g, t, cs, fuel, p, h1, h2, h3, h4⟩ := laid_mem hl m1
  obtain rfl := Option.some.inj (gEnd.symm.trans h1)
  obtain rfl := Option.some.inj (gEndT.symm.trans h2)
  have hc := Lib.cells_of_tab (zs := [13, 10]) (k := .u8) Tryz.underlying119 Tryz.underlying5 cells5 cells119 h4
  obtain ⟨g, t, cs2, fuel2, p2, k1, k2, k3, k4⟩ := laid_mem hl m2
  obtain rfl := Option.some.inj (gSyn.symm.trans k1)
  obtain rfl := Option.some.inj (gSynT.symm.trans k2)
  obtain ⟨f, u, v, hcs, _, _⟩ := iface_of_trod Tryz.underlying130 k4
  have e : ∀ i : Nat, cs[i]? = cs.toList[i]? := fun i => by simp
  have e2 : ∀ i : Nat, cs2[i]? = cs2.toList[i]? := fun i => by simp
  refine ⟨?_, ?_, ?_, ⟨u, v, ?_⟩⟩
  · rw [World.var?_cell gEnd h3 0, e, hc]; rfl
  · rw [World.var?_cell gEnd h3 1, e, hc]; rfl
  · exact Go.Proofs.cell_of_shapedOpen_int (zero := #[.int .i64 0]) (t := 3) hs (of_decide_eq_true (by kernel_rfl)) (by kernel_rfl) rfl (by kernel_rfl) (by kernel_rfl) Tryz.underlying3
  · rw [World.var?_cell gSyn k3 0, e2, hcs]; rfl

theorem laidOut : laidOutB Tryz.prog = true := by kernel_rfl
/-- The arguments read as they did. -/
theorem read_again {H : Type} {enc : TypeId × Value → H} {W W' : World} (hb : Below W.heap.size W W') (ts : List TypeId) (hr : ∀ t ∈ ts, Tryz.prog.readableRec t = true ∧ t < Tryz.prog.types.size) :
    ∀ {vs : List Value} {ds : List (DataW H)} {ps : List MemPlace}, DataW.TrodAll enc Tryz.prog W 0 (fun _ => true) true ts vs ds ps → (∀ x ∈ ps, x.block < W.heap.size) →
      DataW.TrodAll enc Tryz.prog W' 0 (fun b => decide (b < W.heap.size)) true ts vs ds ps := by
  induction ts with
  | nil =>
    intro vs ds ps h _
    obtain ⟨rfl, rfl, rfl⟩ := trodAll_nil h
    exact trodAll_mk0
  | cons t ts ih =>
    intro vs ds ps h hlt
    obtain ⟨v, vs, d, ds, p, q, rfl, rfl, rfl, h1, h2⟩ := trodAll_cons h
    obtain ⟨r1, r2⟩ := hr t (by simp)
    have k1 := Below.trod laidOut r1 r2 h1 hb (fun x hx => hlt x (List.mem_append_left _ hx))
    have k2 := ih (fun t ht => hr t (by simp [ht])) h2 (fun x hx => hlt x (List.mem_append_right _ hx))
    exact trodAll_cons_mk k1 k2
/-- A law's answer: true, and the arguments read as they did. -/
theorem post_true {H : Type} {enc : TypeId × Value → H} {f : Func} {s : ChangeSpec} {W W' : World} {args : Array Value} {ds : List (DataW H)} {before p : List MemPlace}
    (hW : DataW.Whole enc Tryz.prog f.params.toList s.vars false W args.toList ds [] before) (hv : s.vars = [])
    (hA : DataW.TrodAll enc Tryz.prog W 0 (fun _ => true) true f.params.toList args.toList ds p) (hp : ∀ x ∈ p, x.block < W.heap.size)
    (hr : ∀ t ∈ f.params.toList, Tryz.prog.readableRec t = true ∧ t < Tryz.prog.types.size) (hres : f.resultTypes = #[4])
    (hfn : s.fn H ds = { results := [.lit (.bool true)], args := ds }) (hb : Below W.heap.size W W') :
    s.post enc Tryz.prog f false true false false W args (.bool true) W' := by
  refine ⟨ds, [], before, [], p, [], hW, ?_, ?_, ?_, hb.frame _, fun h => by cases h⟩
  · rw [List.append_nil, hfn, hres]
    exact trodAll_mk1 (shut_bool Tryz.underlying4 _)
  · rw [List.append_nil, hfn]
    exact read_again hb _ hr hA hp
  · rw [List.append_nil, hfn, hv]; rfl

theorem bulk_one {H : Type} (d : DataW H) : 1 ≤ Rows.uptoBulk d := by
  cases d with
  | lit l => cases l <;> simp [Rows.uptoBulk]
  | nil => simp [Rows.uptoBulk]
  | ptr d => simp [Rows.uptoBulk]
  | slice elems spare => simp [Rows.uptoBulk]
  | agg parts => simp [Rows.uptoBulk]
  | iface t d => simp [Rows.uptoBulk]
  | map entries => simp [Rows.uptoBulk]
  | held h => simp [Rows.uptoBulk]
theorem bulk_len {H : Type} (l : List (DataW H)) : l.length ≤ Rows.uptoBulkAll l := by
  induction l with
  | nil => simp [Rows.uptoBulkAll]
  | cons x r ih => have := bulk_one x; simp only [Rows.uptoBulkAll, List.length_cons]; omega
theorem bulk_part {H : Type} {d : DataW H} {l : List (DataW H)} (h : d ∈ l) : Rows.uptoBulk d ≤ Rows.uptoBulkAll l := by
  induction l with
  | nil => cases h
  | cons x r ih =>
    simp only [Rows.uptoBulkAll]
    rcases List.mem_cons.1 h with e | e
    · subst e; omega
    · have := ih e; omega
/-- A reading of bytes, opened. -/
theorem bytes_open {H : Type} {enc : TypeId × Value → H} {W : World} {fuel : Nat} {cs : List Value} {y : DataW H × List MemPlace} (h : DataW.trod enc Tryz.prog W 0 (fun _ => true) true fuel 23 cs = some y) (hlt : ∀ x ∈ y.2, x.block < W.heap.size) :
    ∃ (A : Option Addr) (l : B) (c : Nat), cs = [.slice A l.length c] ∧ Bts W A l ∧ l.length ≤ c ∧ (∀ ad, A = some ad → 0 < l.length → ad.block < W.heap.size) ∧ l.length ≤ Rows.uptoBulk y.1 := by
  rcases open_ints Tryz.underlying23 Tryz.underlying5 cells5 h with ⟨hc, hx⟩ | ⟨a, len, cap, zs, hcs, hb, hl, hm, hz, hx, hcell, hwf⟩
  · exact ⟨none, [], 0, hc, ⟨fun j hj => by cases hj⟩, Nat.le_refl _, (fun ad e => by cases e), Nat.zero_le _⟩
  · simp only [if_true] at hz
    obtain ⟨l, hlv⟩ : ∃ l : B, l = (zs.take len).map fun n => UInt8.ofNat n.toNat := ⟨_, rfl⟩
    have hlen : l.length = len := by rw [hlv]; simp; omega
    have hB : Bts W (some a) l := ⟨fun j hj => ⟨a, rfl, by
      have hj2 : j < zs.length := by omega
      rw [hcell j hj2]
      have hw := hwf _ (List.getElem_mem hj2)
      have hr : 0 ≤ zs[j] ∧ zs[j] ≤ 255 := by simpa [Lit.wf, IntKind.min, IntKind.max, IntKind.signed, IntKind.bits] using hw
      have e1 : l[j] = UInt8.ofNat zs[j].toNat := by simp [hlv]
      have e2 : zs.getD j 0 = zs[j] := by rw [List.getD_eq_getElem?_getD, List.getElem?_eq_getElem hj2]; rfl
      have e3 : (UInt8.ofNat zs[j].toNat).toNat = zs[j].toNat := by simp; omega
      rw [e1, e2, e3]
      congr 2; omega⟩⟩
    refine ⟨some a, l, cap, by rw [hcs, hlen], hB, by omega, fun ad e hp => ?_, ?_⟩
    · cases e
      obtain ⟨ad, e, hc⟩ := hB.out 0 hp
      cases e
      have := World.block_lt_of_cell? W _ hc
      rwa [add_block] at this
    · rw [hx, hlen]
      simp only [Rows.uptoBulk]
      have := bulk_len (H := H) (lits .u8 (zs.take len))
      have e : (lits (H := H) .u8 (zs.take len)).length = len := by simp [lits]; omega
      omega
end Go.Proofs.YtcognpibphpadaaGreatDoor
