/- head.folded: its table and row laid. -/
import Derived.Test.YtcognpibphpadaaGreatDoorZFold
set_option linter.unusedVariables false
set_option linter.unusedSimpArgs false
namespace Go.Proofs.YtcognpibphpadaaGreatDoor
open Go.RowKit

theorem heap_alloc_at (w : World) (o : Obj) (k : Nat) (h : w.heap.size = k) : (w.alloc o).heap[k]? = some o := by subst h; exact heap_alloc_new w o

theorem made_at (n i : Nat) (hi : i < n) : (madeCells #[.int .u8 0] n)[i]? = some (.int .u8 0) := by
  simp [madeCells, hi, Nat.mod_one]
/-- A byte in small letters; 0: none. -/
def fb (c : UInt8) : UInt8 := UInt8.ofNat (foldI c.toNat).toNat
theorem fb_table : (List.range 256).all (fun n => decide (0 ≤ foldI n ∧ foldI n ≤ 255)) = true := by decide +kernel
theorem foldI_range (c : UInt8) : 0 ≤ foldI c.toNat ∧ foldI c.toNat ≤ 255 := by
  have := List.all_eq_true.1 fb_table c.toNat (List.mem_range.2 c.toNat_lt)
  simpa using this
theorem fb_toNat (c : UInt8) : ((fb c).toNat : Int) = foldI c.toNat := by
  have := foldI_range c
  unfold fb
  simp
  omega
def foldF (l : B) : Option B := if 1 ≤ l.length ∧ l.length ≤ 30 ∧ ∀ c ∈ l, fb c ≠ 0 then some (l.map fb) else none
def fAns : Option B → Value
  | some t => .tuple #[.string (bs t), .bool true]
  | none => .tuple #[.string (bs []), .bool false]

/-- The row that comes out, when k bytes are made. -/
structure FOut (w : World) (g n k : Nat) (l : B) : Prop where
  out : ∃ cs : Array Value, w.heap[g]? = some (.cells cs 5 (0, 0)) ∧ cs.size = n ∧ (∀ (i : Nat) (h : i < l.length), i < k → cs[i]? = some (.int .u8 (foldI (l[i].toNat : Int)))) ∧ (∀ (i : Nat), k ≤ i → i < n → cs[i]? = some (.int .u8 0))
theorem FOut.step {w : World} {g n k : Nat} {l : B} (h : FOut w g n k l) (hn : l.length = n) (hk : k < n) (v : Int) (hv : ∀ h : k < l.length, v = foldI (l[k].toNat : Int)) : FOut (w.setCell ⟨g, k, none⟩ (.int .u8 v)) g n (k + 1) l := by
  obtain ⟨cs, h1, h2, h3, h4⟩ := h.out
  refine ⟨cs.setIfInBounds k (.int .u8 v), heap_setCell_same w g k cs 5 _ h1, by simp [h2], fun i hi hik => ?_, fun i hi hi' => ?_⟩
  · rw [Array.getElem?_setIfInBounds]
    by_cases e : k = i
    · subst e; simp [h2, hv hi]; omega
    · rw [if_neg e]; exact h3 i hi (by omega)
  · rw [Array.getElem?_setIfInBounds, if_neg (by omega)]
    exact h4 i (by omega) hi'

set_option maxHeartbeats 8000000 in
set_option maxRecDepth 100000 in
theorem folded_calls (s : ByteArray) (w : World) : Calls Tryz.prog 158 #[.string s] w fun e w' => e = .returned (fAns (foldF s.data.toList)) ∧ Low w.heap.size w w' := by
  have hsl : s.data.toList.length = s.size := by rw [Array.length_toList]; rfl
  by_cases h0 : s.size = 0 ∨ 30 < s.size
  · have HF := Lib.hid (show foldF s.data.toList = none by unfold foldF; rw [if_neg]; rintro ⟨a, b, -⟩; omega)
    obtain ⟨b1, hb1⟩ : ∃ b, ((s.size : Int) == 0) = b := ⟨_, rfl⟩
    obtain ⟨b2, hb2⟩ : ∃ b, decide ((30 : Int) < (s.size : Int)) = b := ⟨_, rfl⟩
    have hor : b1 = true ∨ b2 = true := by
      rcases h0 with h0 | h0
      · left; rw [← hb1, beq_iff_eq]; omega
      · right; rw [← hb2]; simp; omega
    clear h0 hsl
    cases b1 <;> cases b2
    · simp at hor
    all_goals
      clear hor
      go_enter Tryz.func158, Tryz.ntmps158
      go_wp2
      go_ret2
      rw [HF.out]
      exact ⟨rfl, Low.refl _ _⟩
  · have d0 : ((s.size : Int) == 0) = false := by rw [beq_eq_false_iff_ne]; omega
    have d1 : decide ((30 : Int) < (s.size : Int)) = false := by simp; omega
    have hmk := make_bytes s.size (by omega)
    have hn1 : 1 ≤ s.size := by omega
    have hn30 : s.size ≤ 30 := by omega
    have HSL := Lib.hid hsl
    clear h0 hsl
    go_enter Tryz.func158, Tryz.ntmps158
    go_upto_region 3 with fail
    go_cut [4, 5] (fun s4 s5 wx => FCut w s.size s4 s5 wx)
    case first =>
      go_region_with (go_at_call 187; refine (build_calls _).mono ?_; rintro e w' ⟨cs, rfl, hs, hc, hlw⟩; have hone := tab_one cs hs hc; have hst := store_tab cs hs hone; have hst2 := store_tab2 cs hs hone; (try have hst3 := store_tabs cs hs hone (w.heap.size + 1) w' ((hlw.out.block _ (by first | (simp; done) | (simp; omega))).trans (drew2_new _ _ _))); (try have hst4 := store_tabs cs hs hone w.heap.size w' ((hlw.out.block _ (by first | (simp; done) | (simp; omega))).trans (drew2_old _ _ _))); (try have hst6 := tab_late cs hs hone hlw (by first | (simp; done) | (simp; omega))); (try have hst5 := store_tabs cs hs hone w.heap.size w' ((hlw.out.block _ (by first | (simp; done) | (simp; omega))).trans (drew_new _ _))); have hc' := Lib.hid hc; have hone' := Lib.hid hone; clear hc hone)
      all_goals
        have hsz := hlw.size
        simp only [World.size_alloc, World.size_drew] at hsz
        go_wp2_with fail
        go_meet
        refine ⟨⟨_, _, cs, rfl, rfl, ?_, hc'.out, ?_, ?_, ?_, ?_, ?_⟩⟩
        ·
          repeat' first
            | exact heap_alloc_new _ _
            | exact heap_alloc2_new _ _ _
            | exact heap_alloc2_old _ _ _
            | exact drew_new _ _
            | exact drew2_new _ _ _
            | exact drew2_old _ _ _
            | (refine heap_alloc_at _ _ _ ?_; (first | omega | (simp only [World.size_alloc, World.size_drew, setRow_size]; done) | (simp only [World.size_alloc, World.size_drew, setRow_size]; omega)))
            | refine setRow_heap _ _ Tryz.zeroCells198 cs _ _ ?_
            | (refine (setRow_other _ _ _ _ ?_).trans ?_; (first | omega | (simp only [World.size_alloc, World.size_drew, setRow_size]; omega) | (simp; done)))
            | (refine (Below.heap_alloc _ _ _ ?_).trans ?_; (first | omega | (simp only [World.size_alloc, World.size_drew, setRow_size]; omega) | (simp; done)))
            | (refine (hlw.out.block _ ?_).trans ?_; (first | omega | (simp only [World.size_alloc, World.size_drew, setRow_size]; omega) | (simp; done)))
        ·
          repeat' first
            | exact heap_alloc_new _ _
            | exact heap_alloc2_new _ _ _
            | exact heap_alloc2_old _ _ _
            | exact drew_new _ _
            | exact drew2_new _ _ _
            | exact drew2_old _ _ _
            | (refine heap_alloc_at _ _ _ ?_; (first | omega | (simp only [World.size_alloc, World.size_drew, setRow_size]; done) | (simp only [World.size_alloc, World.size_drew, setRow_size]; omega)))
            | refine setRow_heap _ _ Tryz.zeroCells198 cs _ _ ?_
            | (refine (setRow_other _ _ _ _ ?_).trans ?_; (first | omega | (simp only [World.size_alloc, World.size_drew, setRow_size]; omega) | (simp; done)))
            | (refine (Below.heap_alloc _ _ _ ?_).trans ?_; (first | omega | (simp only [World.size_alloc, World.size_drew, setRow_size]; omega) | (simp; done)))
            | (refine (hlw.out.block _ ?_).trans ?_; (first | omega | (simp only [World.size_alloc, World.size_drew, setRow_size]; omega) | (simp; done)))
        · omega
        · omega
        · omega
        · repeat' first
            | exact Low.refl _ _
            | exact (Low.refl _ _).drew
            | (refine Low.setRow ?_ _ ?_ _; rotate_left; (first | omega | (simp only [World.size_alloc, World.size_drew, setRow_size]; omega) | (simp; done)))
            | (refine Low.alloc ?_ ?_ _; rotate_left; (first | omega | (simp only [World.size_alloc, World.size_drew, setRow_size]; omega) | (simp; done)))
            | (refine Low.trans ?_ (hlw.mono ?_); rotate_left; (first | omega | (simp only [World.size_alloc, World.size_drew, setRow_size]; omega) | (simp; done)))
            | refine Low.drew ?_
    case rest =>
      obtain ⟨gt, go, ct, rfl, rfl, ht, hc, ho, hne, hgt, hgo, hlw⟩ := hcut.out
      have HT := Lib.hid ht
      have HC := Lib.hid hc
      have HO : FOut wc go s.size 0 s.data.toList := ⟨_, ho, by simp [madeCells], fun i hi h => by omega, fun i _ hi => made_at _ _ hi⟩
      clear ht hc ho hcut hmk
      go_wp2
      go_loopw [6, 21] (fun _ i wr => ∃ k : Nat, k ≤ s.size ∧ i = .int .i64 k ∧ FOut wr go s.size k s.data.toList ∧ Hid (wr.heap[gt]? = some (.cells ct 198 (0, 0))) ∧ Low w.heap.size w wr ∧ Hid (∀ (i : Nat) (h : i < s.data.toList.length), i < k → foldI (s.data.toList[i].toNat : Int) ≠ 0)) (fun _ i _ => s.size - (intOf i).toNat)
      case atStart => exact ⟨0, by omega, rfl, HO, HT, hlw, fun i _ h => by omega⟩
      case round =>
        clear HO hlw HT
        obtain ⟨k, hk, rfl, HO, HT, hlw, HN⟩ := hrel
        by_cases hlt : k < s.size
        · have hlt' : k < s.data.toList.length := by rw [HSL.out]; exact hlt
          obtain ⟨cs, h1, h2, h3, h4⟩ := HO.out
          have hco := (cell_of_row wr go k cs 5 _ h1).trans (h4 k (Nat.le_refl _) hlt)
          have hfo := frozen_of_row wr go k cs 5 h1
          clear h1 h2 h3 h4
          have hr := foldI_range (s.data.toList[k])
          have hx := (s.data.toList[k]).toNat_lt
          have hct := (cell_of_row wr gt (s.data.toList[k]).toNat ct 198 _ HT.out).trans (HC.out _ (by omega))
          obtain ⟨x, hxe⟩ : ∃ x : Nat, (s.data.toList[k]).toNat = x := ⟨_, rfl⟩
          have hxs : (s[k]'hlt).toNat = x := by rw [← hxe, Array.getElem_toList]; rfl
          rw [hxe] at hr hx hct
          obtain ⟨v, hv⟩ : ∃ v : Int, foldI x = v := ⟨_, rfl⟩
          rw [hv] at hr hct
          have HV := Lib.hid hv
          have HX := Lib.hid hxe
          have hr0 := hr.1
          have hr1 := hr.2
          clear hv hxe hr
          have hfbk : fb (s.data.toList[k]) = 0 ↔ v = 0 := by
            have e := fb_toNat (s.data.toList[k])
            rw [HX.out, HV.out] at e
            constructor
            · intro h; rw [h] at e; simpa using e.symm
            · intro h; rw [h] at e; exact UInt8.toNat_inj.1 (by simpa using e)
          have HFB := Lib.hid hfbk
          clear hfbk
          have hcases : (v == 0) = true ∨ (v == 0) = false := by cases (v == 0) <;> simp
          rcases hcases with hv0 | hv0
          · have hv0' : v = 0 := by simpa using hv0
            have HF := Lib.hid (show foldF s.data.toList = none by
              unfold foldF
              rw [if_neg]
              rintro ⟨-, -, h⟩
              exact h _ (List.getElem_mem hlt') (HFB.out.2 hv0'))
            have HLW := hlw.setCell (p := ⟨go, k, none⟩) hgo (.int .u8 v)
            clear hv0'
            go_wp2
            go_ret2
            rw [HF.out]
            exact ⟨rfl, HLW⟩
          · have hv0' : v ≠ 0 := by simpa using hv0
            have HV0 := Lib.hid hv0'
            have HO2 := HO.step HSL.out hlt v (fun h => by rw [HX.out]; exact HV.out.symm)
            have HT2 := Lib.hid ((heap_setCell_other wr ⟨go, k, none⟩ gt (.int .u8 v) hne).trans HT.out)
            have HLW := hlw.setCell (p := ⟨go, k, none⟩) hgo (.int .u8 v)
            clear hv0'
            go_wp2
            refine ⟨⟨k + 1, by omega, by go_num, HO2, HT2, HLW, fun i h hi => ?_⟩, by simp [intOf]; omega⟩
            by_cases e : i = k
            · subst e; rw [HX.out, HV.out]; exact HV0.out
            · exact HN.out i h (by omega)
        · have hk' : k = s.size := by omega
          obtain ⟨cs, h1, h2, h3, h4⟩ := HO.out
          have HF := Lib.hid (show foldF s.data.toList = some (s.data.toList.map fb) by
            unfold foldF
            rw [if_pos]
            refine ⟨by rw [HSL.out]; omega, by rw [HSL.out]; omega, fun c hc h0 => ?_⟩
            obtain ⟨i, hi, e⟩ := List.getElem_of_mem hc
            have := fb_toNat c
            rw [h0, ← e] at this
            exact HN.out i hi (by rw [hk', ← HSL.out]; exact hi) (by simpa using this.symm))
          have HBT : Bts wr (some ⟨go, 0, none⟩) (s.data.toList.map fb) := ⟨fun j hj => by
            have hj' : j < s.data.toList.length := by simpa using hj
            refine ⟨_, rfl, ?_⟩
            rw [add0, cell_of_row wr go j cs 5 _ h1, h3 j hj' (by rw [hk', ← HSL.out]; exact hj')]
            simp [fb_toNat]⟩
          have HLl : (s.data.toList.map fb).length = s.size := by rw [List.length_map]; exact HSL.out
          have hcv := HBT.conv s.size
          rw [HLl] at hcv
          clear h1 h2 h3 h4 hk' HLl
          go_wp2
          go_ret2
          rw [HF.out]
          exact ⟨rfl, hlw⟩
end Go.Proofs.YtcognpibphpadaaGreatDoor
