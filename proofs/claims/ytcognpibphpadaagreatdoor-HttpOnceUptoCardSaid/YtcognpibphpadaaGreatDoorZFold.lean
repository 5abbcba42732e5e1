/- head.build and head.folded: a name in small letters. -/
import Derived.Test.YtcognpibphpadaaGreatDoorZBase
import Derived.Laws.ResultCell
import Derived.Laws.Rows
import Derived.Deep.RegionWith
import Derived.Deep.RegionLaw
import Derived.Deep.DeepCutAuto
import Derived.Laws.MakeOwn
import Derived.Deep.OwnRows
import Derived.Laws.CopyRow
set_option linter.unusedVariables false
set_option linter.unusedSimpArgs false
namespace Go.Proofs.YtcognpibphpadaaGreatDoor
open Go.RowKit

def foldI (c : Int) : Int := if (97 ≤ c ∧ c ≤ 122) ∨ (48 ≤ c ∧ c ≤ 57) ∨ c = 45 ∨ c = 95 then c else if 65 ≤ c ∧ c ≤ 90 then c + 32 else 0

/-- The table when k entries are made. -/
structure Tab (w : World) (g k : Nat) : Prop where
  out : ∃ cs : Array Value, w.heap[g]? = some (.cells cs 198 (0, 0)) ∧ cs.size = 256 ∧ (∀ i : Nat, i < k → cs[i]? = some (.int .u8 (foldI i))) ∧ (∀ i : Nat, k ≤ i → i < 256 → cs[i]? = some (.int .u8 0))
theorem zero198 : Tryz.zeroCells198.size = 256 ∧ ∀ i : Fin 256, Tryz.zeroCells198[i.val]? = some (.int .u8 0) := ⟨by kernel_rfl, by
  have h : Tryz.zeroCells198 = (List.replicate 256 (Value.int .u8 0)).toArray := by kernel_rfl
  intro i
  rw [h, List.getElem?_toArray, List.getElem?_replicate, if_pos i.isLt]⟩
theorem Tab.step {w : World} {g k : Nat} (h : Tab w g k) (_hk : k < 256) (v : Int) (hv : v = foldI k) : Tab (w.setCell ⟨g, k, none⟩ (.int .u8 v)) g (k + 1) := by
  obtain ⟨cs, h1, h2, h3, h4⟩ := h.out
  refine ⟨cs.setIfInBounds k (.int .u8 v), heap_setCell_same w g k cs 198 _ h1, by simp [h2], fun i hi => ?_, fun i hi hi' => ?_⟩
  · rw [Array.getElem?_setIfInBounds]
    by_cases e : k = i
    · subst e; simp [h2, hv]; omega
    · rw [if_neg e]; exact h3 i (by omega)
  · rw [Array.getElem?_setIfInBounds, if_neg (by omega)]
    exact h4 i (by omega) hi'
theorem Tab.skip {w : World} {g k : Nat} (h : Tab w g k) (hk : k < 256) (hv : foldI k = 0) : Tab w g (k + 1) := by
  obtain ⟨cs, h1, h2, h3, h4⟩ := h.out
  refine ⟨cs, h1, h2, fun i hi => ?_, fun i hi hi' => h4 i (by omega) hi'⟩
  by_cases e : i = k
  · subst e; rw [hv]; exact h4 i (Nat.le_refl _) hk
  · exact h3 i (by omega)
theorem mod256 (k : Nat) (h : k < 256) : ((k : Int) % 256) = k := by omega

set_option maxHeartbeats 8000000 in
set_option maxRecDepth 100000 in
theorem build_calls (w : World) : Calls Tryz.prog 187 #[] w fun e w' => ∃ cs : Array Value, e = .returned (.agg cs) ∧ cs.size = 256 ∧ (∀ i : Nat, i < 256 → cs[i]? = some (.int .u8 (foldI i))) ∧ Low w.heap.size w w' := by
  have HZ : Tab (w.alloc (Obj.cells Tryz.zeroCells198 198)) w.heap.size 0 := ⟨Tryz.zeroCells198, heap_alloc_new w _, zero198.1, fun i hi => by omega, fun i _ hi => zero198.2 ⟨i, hi⟩⟩
  have hL : Low w.heap.size w (w.alloc (Obj.cells Tryz.zeroCells198 198)) := (Low.refl _ _).alloc (Nat.le_refl _) _
  go_enter Tryz.func187, Tryz.ntmps187
  go_wp2
  go_loopw [1, 3] (fun _ i wr => ∃ k : Nat, k ≤ 256 ∧ i = .int .i64 k ∧ Tab wr w.heap.size k ∧ Low w.heap.size w wr) (fun _ i _ => 256 - (intOf i).toNat)
  case atStart => exact ⟨0, by omega, rfl, HZ, hL⟩
  case round =>
    obtain ⟨k, hk, rfl, hT, hlw⟩ := hrel
    by_cases hlt : k < 256
    · obtain ⟨cs, h1, h2, h3, h4⟩ := hT.out
      have hc := (cell_of_row wr w.heap.size k cs 198 _ h1).trans (h4 k (Nat.le_refl _) hlt)
      have hf := frozen_of_row wr w.heap.size k cs 198 h1
      clear h1 h2 h3 h4
      go_wp2
      all_goals
        refine ⟨⟨k + 1, by omega, by go_num, ?_, ?_⟩, by simp [intOf]; omega⟩
        · first
            | refine hT.step hlt _ ?_
            | refine hT.skip hlt ?_
          all_goals
            try simp only [beq_iff_eq, beq_eq_false_iff_ne, ne_eq] at *
            unfold foldI
            split
            · omega
            · split <;> omega
        · first
            | exact hlw
            | exact hlw.setCell (Nat.le_refl _) _
    · obtain ⟨cs, h1, h2, h3, h4⟩ := hT.out
      have hk' : k = 256 := by omega
      subst hk'
      have hall : cs.all (·.oneCell') = true := by
        rw [Array.all_eq_true]
        intro i hi
        have := h3 i (by omega)
        rw [Array.getElem?_eq_getElem hi] at this
        injection this with this
        rw [this]
        rfl
      have hi' : (Tryz.prog.info? 198).map (·.size) = some cs.size := by rw [h2]; kernel_rfl
      have H1 := Lib.hid h1
      have H3 := Lib.hid h3
      have H2 := Lib.hid h2
      have HA := Lib.hid hall
      have HI := Lib.hid hi'
      clear h4 hlt hT h2 h1 h3 hall hi'
      go_wp2_with (first | (refine wpList_load_row rfl 198 _ rfl _ rfl 198 cs _ _ H1.out Tryz.underlying198 rfl HI.out ?_) | (refine wpList_store_row rfl 198 _ _ rfl _ cs rfl rfl 198 cs H1.out HI.out rfl HA.out ?_))
      refine bodyPost_ret (results_cell_row rfl _ _ w.heap.size 198 cs (0, 0) _ rfl (setRow_heap wr _ cs cs 198 _ H1.out) Tryz.underlying198 rfl HI.out) rfl ?_
      exact ⟨cs, rfl, H2.out, H3.out, hlw.trans ⟨⟨rfl, rfl, rfl, by simp, fun k hk => setRow_other wr _ k cs (by omega)⟩⟩⟩

theorem info5 : (Tryz.prog.info? 5).map (fun i => (i.zero, i.size, i.bytes)) = some (some (.int .u8 0), 1, 1) := by kernel_rfl
theorem make_bytes (n : Nat) (hn : n ≤ 1048576) (W : World) : (Instr.makeSlice 23 (.int .i64 (n : Int)) (.int .i64 (n : Int))).run Tryz.prog W = .ok (.slice (some ⟨W.heap.size, 0, none⟩) n n) (W.alloc (.cells (madeCells #[.int .u8 0] n) 5)) :=
  run_make_row' 23 5 (.int .u8 0) 1 Tryz.underlying23 info5 rfl .i64 .i64 n (by omega) (by omega) W

theorem tab_one (cs : Array Value) (h2 : cs.size = 256) (h3 : ∀ i : Nat, i < 256 → cs[i]? = some (.int .u8 (foldI i))) : ∀ v ∈ cs.toList, v.oneCell' = true := by
  intro v hv
  obtain ⟨i, hi, e⟩ := List.getElem_of_mem hv
  have hi' : i < cs.size := by simpa using hi
  have := h3 i (by omega)
  rw [Array.getElem?_eq_getElem hi'] at this
  injection this with this
  rw [← e, Array.getElem_toList, this]
  rfl
theorem drew_new (w : World) (o : Obj) : (w.alloc o).drew.heap[w.heap.size]? = some o := heap_alloc_new w o
theorem drew2_new (w : World) (A B : Obj) : ((w.alloc A).alloc B).drew.heap[w.heap.size + 1]? = some B := heap_alloc2_new w A B
theorem drew2_old (w : World) (A B : Obj) : ((w.alloc A).alloc B).drew.heap[w.heap.size]? = some A := heap_alloc2_old w A B
theorem Low.setRow {b : Nat} {w w1 : World} (h : Low b w w1) (g : Nat) (hg : b ≤ g) (cs : Array Value) : Low b w (w1.setRow g cs) :=
  h.trans ⟨⟨rfl, rfl, rfl, by simp, fun k hk => setRow_other w1 g k cs (by omega)⟩⟩
theorem store_tabs (cs : Array Value) (hs : cs.size = 256) (h1 : ∀ v ∈ cs.toList, v.oneCell' = true) (g : Nat) (W : World) (hg : W.heap[g]? = some (.cells Tryz.zeroCells198 198 (0, 0))) :
    (storeCells ⟨g, 0, none⟩ cs.toList).run Tryz.prog W = .ok () (W.setRow g cs) := by
  have h := run_storeCells_at (P := Tryz.prog) g 0 198 cs.toList 0 Tryz.zeroCells198 W hg (by rw [zero198.1]; simp [hs]) h1
  rw [h]
  have e : (Tryz.zeroCells198.toList.drop (0 + 0 + cs.toList.length)) = [] := List.drop_of_length_le (by simp [hs, zero198.1])
  rw [e]
  simp
theorem store_tab (cs : Array Value) (hs : cs.size = 256) (h1 : ∀ v ∈ cs.toList, v.oneCell' = true) (g : Nat) (W : World) (hg : W.heap.size = g) :
    (storeCells ⟨g, 0, none⟩ cs.toList).run Tryz.prog (W.alloc (.cells Tryz.zeroCells198 198)) = .ok () ((W.alloc (.cells Tryz.zeroCells198 198)).setRow g cs) := by
  subst hg
  exact store_tabs cs hs h1 _ _ (heap_alloc_new W _)
theorem store_tab2 (cs : Array Value) (hs : cs.size = 256) (h1 : ∀ v ∈ cs.toList, v.oneCell' = true) (X : Obj) (g : Nat) (W : World) (hg : W.heap.size = g) :
    (storeCells ⟨g, 0, none⟩ cs.toList).run Tryz.prog ((W.alloc (.cells Tryz.zeroCells198 198)).alloc X) = .ok () (((W.alloc (.cells Tryz.zeroCells198 198)).alloc X).setRow g cs) := by
  subst hg
  exact store_tabs cs hs h1 _ _ (heap_alloc2_old W _ _)

theorem tab_late (cs : Array Value) (hs : cs.size = 256) (h1 : ∀ v ∈ cs.toList, v.oneCell' = true) {w w' : World} {n : Nat} (hlw : Low n (w.alloc (.cells Tryz.zeroCells198 198)).drew w') (hn : w.heap.size < n) (X : Obj) :
    (storeCells ⟨w.heap.size, 0, none⟩ cs.toList).run Tryz.prog (w'.alloc X) = .ok () ((w'.alloc X).setRow w.heap.size cs) := by
  have e : w'.heap[w.heap.size]? = some (.cells Tryz.zeroCells198 198 (0, 0)) := (hlw.out.block _ hn).trans (drew_new _ _)
  exact store_tabs cs hs h1 _ _ ((Below.heap_alloc w' X _ (Array.getElem?_eq_some_iff.1 e).1).trans e)

/-- The table and the row of what comes out, wherever they lie. -/
structure FCut (w : World) (n : Nat) (s4 s5 : Value) (wx : World) : Prop where
  out : ∃ gt go cs, s4 = .pointer (some ⟨gt, 0, none⟩) ∧ s5 = .slice (some ⟨go, 0, none⟩) n n ∧ wx.heap[gt]? = some (.cells cs 198 (0, 0)) ∧ (∀ i : Nat, i < 256 → cs[i]? = some (.int .u8 (foldI i))) ∧
    wx.heap[go]? = some (.cells (madeCells #[.int .u8 0] n) 5 (0, 0)) ∧ gt ≠ go ∧ w.heap.size ≤ gt ∧ w.heap.size ≤ go ∧ Low w.heap.size w wx

end Go.Proofs.YtcognpibphpadaaGreatDoor
