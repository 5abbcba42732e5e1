/- Package head: Line. -/
import Derived.Test.YtcognpibphpadaaGreatDoorZVal
import Derived.Shelf.Strings.SlTrimAscii
import Derived.Laws.ResultCell
set_option linter.unusedVariables false
set_option linter.unusedSimpArgs false
namespace Go.Proofs.YtcognpibphpadaaGreatDoor
open Go.RowKit

theorem trim2_calls (s : ByteArray) (w : World) (hs : s.size ≤ 1048576) : Calls Tryz.prog 95 #[.string s, .string ⟨#[32, 9]⟩] w fun e w' => e = .returned (.string (bs (Lib.trimS s.data.toList [32, 9]))) ∧ Low w.heap.size w w' :=
  (Any.strings_Trim_laid Tryz.lays160 (by kernel_rfl) s ⟨#[32, 9]⟩ w (by omega) (by decide) (ascii_of_all (by decide))).mono fun e w' ⟨he, hb⟩ => ⟨he, ⟨hb⟩⟩
theorem cut_calls (s sep : ByteArray) (w : World) (hs : s.size ≤ 1048576) (hg : Glob w) : Calls Tryz.prog 104 #[.string s, .string sep] w fun e w' => e = .returned (.tuple #[.string (bs (Lib.cut s.data.toList sep.data.toList).1), .string (bs (Lib.cut s.data.toList sep.data.toList).2.1), .bool (Lib.cut s.data.toList sep.data.toList).2.2]) ∧ Low w.heap.size w w' := by
  obtain ⟨m, hm⟩ := hg.most
  exact (Tryz.strings_Cut s sep m w (by omega) hm).mono fun e w' ⟨he, n, hn⟩ => ⟨he, hn ▸ (Low.refl _ _).drewN n⟩

def lineH (l : B) : Option (B × B) :=
  if ((Lib.cut l [58]).2.2 && (decide (l.length ≤ 300) && mayB (Lib.cut l [58]).1 (Lib.trimS (Lib.cut l [58]).2.1 [32, 9]))) = true then some ((Lib.cut l [58]).1, Lib.trimS (Lib.cut l [58]).2.1 [32, 9]) else none
def lAns : Option (B × B) → Value
  | some (n, v) => .tuple #[.agg #[.string (bs n), .string (bs v)], .int .i64 0]
  | none => .tuple #[.agg #[.string (bs []), .string (bs [])], .int .i64 40]

theorem cut_len (l sep : B) : (Lib.cut l sep).1.length ≤ l.length ∧ (Lib.cut l sep).2.1.length ≤ l.length := by
  unfold Lib.cut
  split
  · simp; omega
  · simp
theorem dropWhile_len (p : UInt8 → Bool) : ∀ l : B, (l.dropWhile p).length ≤ l.length
  | [] => by simp
  | c :: t => by
    rw [List.dropWhile_cons]
    split
    · exact Nat.le_succ_of_le (dropWhile_len p t)
    · exact Nat.le_refl _
theorem trimS_len (l cs : B) : (Lib.trimS l cs).length ≤ l.length := by
  unfold Lib.trimS Lib.trimLeftS Lib.trimRightS
  refine Nat.le_trans (dropWhile_len _ _) ?_
  rw [List.length_reverse]
  refine Nat.le_trans (dropWhile_len _ _) ?_
  rw [List.length_reverse]
  exact Nat.le_refl _
/-- A header's block. -/
structure HBlk (w : World) (g : Nat) (n v : ByteArray) : Prop where
  out : w.heap[g]? = some (.cells #[.string n, .string v] 33 (0, 0))
theorem HBlk.c0 {w : World} {g : Nat} {n v : ByteArray} (h : HBlk w g n v) : w.cell? ⟨g, 0, none⟩ = some (.string n) := by rw [cell_of_row w g 0 _ _ _ h.out]; rfl
theorem HBlk.c1 {w : World} {g : Nat} {n v : ByteArray} (h : HBlk w g n v) : w.cell? ⟨g, 1, none⟩ = some (.string v) := by rw [cell_of_row w g 1 _ _ _ h.out]; rfl
theorem HBlk.f {w : World} {g : Nat} {n v : ByteArray} (h : HBlk w g n v) (j : Nat) : w.frozen? ⟨g, j, none⟩ = false := frozen_of_row w g j _ _ h.out
theorem HBlk.low {w w1 : World} {g b : Nat} {n v : ByteArray} (h : HBlk w g n v) (hl : Low b w w1) (hb : g < b) : HBlk w1 g n v := ⟨(hl.out.block g hb).trans h.out⟩
theorem HBlk.lt {w : World} {g : Nat} {n v : ByteArray} (h : HBlk w g n v) : g < w.heap.size := (Array.getElem?_eq_some_iff.1 h.out).1

theorem HBlk.set0 {w : World} {g : Nat} {n v : ByteArray} (h : HBlk w g n v) (x : ByteArray) : HBlk (w.setCell ⟨g, 0, none⟩ (.string x)) g x v := ⟨by rw [heap_setCell_same w g 0 _ _ _ h.out]; rfl⟩
theorem HBlk.set1 {w : World} {g : Nat} {n v : ByteArray} (h : HBlk w g n v) (x : ByteArray) : HBlk (w.setCell ⟨g, 1, none⟩ (.string x)) g n x := ⟨by rw [heap_setCell_same w g 1 _ _ _ h.out]; rfl⟩
theorem results_row_tmp {P : Program} {fn : Func} {p u : Tmp} {ty : TypeId} (h : fn.results = #[.cell p ty, .tmp u]) (tmps : Array Value) (w : World) (g : Nat) (t : TypeId) (cs : Array Value) (fr : Nat × Nat) (d : TypeDesc)
    (hp : tmps.getD p undef = .pointer (some ⟨g, 0, none⟩)) (hg : w.heap[g]? = some (.cells cs t fr))
    (hu : P.underlying ty = some d) (hd : (match d with | .struct _ | .array _ _ => true | _ => false) = true) (hi : (P.info? ty).map (·.size) = some cs.size) :
    (results fn tmps).run P w = .ok (.tuple #[.agg cs, tmps.getD u undef]) w := by
  rw [results_cell_tmp h, hp]
  simp [asAddr, run_loadVar_row w g t ty cs fr d hg hu hd hi, Result.andThen]
theorem size33 : (Tryz.prog.info? 33).map (·.size) = some 2 := by kernel_rfl

set_option maxHeartbeats 8000000 in
set_option maxRecDepth 100000 in
theorem headLine_calls (s : ByteArray) (w : World) (hs : s.size ≤ 1048576) (hg : Glob w) : Calls Tryz.prog 109 #[.string s] w fun e w' => e = .returned (lAns (lineH s.data.toList)) ∧ Low w.heap.size w w' := by
  have hsl : s.data.toList.length = s.size := by rw [Array.length_toList]; rfl
  have HG := Lib.hid (fun w1 (h : Low w.heap.size w w1) => cut_calls s ⟨#[58]⟩ w1 hs (hg.low h hg.lt))
  have hcl := cut_len s.data.toList [58]
  have HM : lineH s.data.toList = if ((Lib.cut s.data.toList [58]).2.2 && (decide (s.data.toList.length ≤ 300) && mayB (Lib.cut s.data.toList [58]).1 (Lib.trimS (Lib.cut s.data.toList [58]).2.1 [32, 9]))) = true then some ((Lib.cut s.data.toList [58]).1, Lib.trimS (Lib.cut s.data.toList [58]).2.1 [32, 9]) else none := rfl
  have hlt : decide ((300 : Int) < (s.size : Int)) = !decide (s.data.toList.length ≤ 300) := by
    rw [hsl]
    by_cases h : s.size ≤ 300
    · simp [h]; omega
    · simp [h]; omega
  have hh : (bs (Lib.trimS (Lib.cut s.data.toList [58]).2.1 [32, 9])).size ≤ 1048576 := by
    rw [bs_size]
    have := trimS_len (Lib.cut s.data.toList [58]).2.1 [32, 9]
    omega
  have hT := fun w => trim2_calls (bs (Lib.cut s.data.toList [58]).2.1) w (by rw [bs_size]; omega)
  have hMy := fun w => may_calls (bs (Lib.cut s.data.toList [58]).1) _ w hh
  simp only [bs_data] at hT hMy
  have e58 : (ByteArray.mk #[58]).data.toList = [58] := rfl
  rw [e58] at HG
  clear hcl hh
  generalize (Lib.cut s.data.toList [58]).1 = nm at HG HM hT hMy
  generalize (Lib.cut s.data.toList [58]).2.1 = vv at HG HM hT hMy
  generalize (Lib.cut s.data.toList [58]).2.2 = is at HG HM hT hMy
  generalize Lib.trimS vv [32, 9] = tv at HG HM hT hMy
  generalize mayB nm tv = my at HG HM hT hMy
  generalize decide (s.data.toList.length ≤ 300) = sh at hlt HM
  have HM := Lib.hid HM
  have HT := Lib.hid hT
  have HMY := Lib.hid hMy
  have HL := Lib.hid hlt
  clear hT hMy hlt hsl hg
  go_enter Tryz.func109, Tryz.ntmps109
  go_wp2_with fail
  refine (HG.out _ ((Low.refl _ _).alloc (Nat.le_refl _) _)).mono ?_
  rintro e w1 ⟨rfl, hl1⟩
  have hB1 : HBlk w1 w.heap.size _ _ := HBlk.low ⟨heap_alloc_new w _⟩ hl1 (by simp)
  have hz1 := hl1.size
  simp only [World.size_alloc] at hz1
  have hlw1 := ((Low.refl w.heap.size w).alloc (Nat.le_refl _) _).trans (hl1.mono (by simp))
  clear hl1
  go_wp2_with fail
  refine (HT.out _).mono ?_
  rintro e w2 ⟨rfl, hl2⟩
  have hB2 := hB1.low hl2 (by omega)
  have hz2 := hl2.size
  have hlw2 := hlw1.trans (hl2.mono (by omega))
  clear hB1 hl2 hlw1
  have hB3 := hB2.low ((Low.refl w2.heap.size w2).alloc (Nat.le_refl _) (.cells #[.string (bs nm), .string (bs tv)] 33)) (by omega)
  have hH3 : HBlk (w2.alloc (.cells #[.string (bs nm), .string (bs tv)] 33)) w2.heap.size _ _ := ⟨heap_alloc_new w2 _⟩
  have b30 := hB3.c0
  have b31 := hB3.c1
  have b3f := hB3.f 0
  have b3g := hB3.f 1
  have h30 := hH3.c0
  have h31 := hH3.c1
  have hlw3 := hlw2.alloc (by omega) (.cells #[.string (bs nm), .string (bs tv)] 33)
  cases is <;> cases sh
  · go_wp2
    refine bodyPost_ret (results_row_tmp rfl _ _ w.heap.size 33 _ (0, 0) _ rfl ((hB3.set0 ⟨#[]⟩).set1 ⟨#[]⟩).out Tryz.underlying33 rfl size33) rfl ?_
    rw [HM.out]
    exact ⟨rfl, (hlw3.setCell (Nat.le_refl _) _).setCell (Nat.le_refl _) _⟩
  · go_wp2
    refine bodyPost_ret (results_row_tmp rfl _ _ w.heap.size 33 _ (0, 0) _ rfl ((hB3.set0 ⟨#[]⟩).set1 ⟨#[]⟩).out Tryz.underlying33 rfl size33) rfl ?_
    rw [HM.out]
    exact ⟨rfl, (hlw3.setCell (Nat.le_refl _) _).setCell (Nat.le_refl _) _⟩
  · have dL : decide ((300 : Int) < (s.size : Int)) = true := HL.out
    go_wp2
    refine bodyPost_ret (results_row_tmp rfl _ _ w.heap.size 33 _ (0, 0) _ rfl ((hB3.set0 ⟨#[]⟩).set1 ⟨#[]⟩).out Tryz.underlying33 rfl size33) rfl ?_
    rw [HM.out]
    exact ⟨rfl, (hlw3.setCell (Nat.le_refl _) _).setCell (Nat.le_refl _) _⟩
  · have dL : decide ((300 : Int) < (s.size : Int)) = false := HL.out
    go_wp2_with fail
    refine (HMY.out _).mono ?_
    rintro e w4 ⟨rfl, hl4⟩
    have hz4 := hl4.size
    simp only [World.size_alloc] at hz4
    have hlw4 := hlw3.trans (hl4.mono (by simp; omega))
    have hB4 := hB3.low hl4 (by simp; omega)
    have hH4 := hH3.low hl4 (by simp)
    clear b30 b31 b3f b3g h30 h31
    have b30 := hB4.c0
    have b31 := hB4.c1
    have b3f := hB4.f 0
    have b3g := hB4.f 1
    have h30 := hH4.c0
    have h31 := hH4.c1
    cases my
    · go_wp2
      refine bodyPost_ret (results_row_tmp rfl _ _ w.heap.size 33 _ (0, 0) _ rfl ((hB4.set0 ⟨#[]⟩).set1 ⟨#[]⟩).out Tryz.underlying33 rfl size33) rfl ?_
      rw [HM.out]
      exact ⟨rfl, (hlw4.setCell (Nat.le_refl _) _).setCell (Nat.le_refl _) _⟩
    · go_wp2
      refine bodyPost_ret (results_row_tmp rfl _ _ w.heap.size 33 _ (0, 0) _ rfl ((hB4.set0 (bs nm)).set1 (bs tv)).out Tryz.underlying33 rfl size33) rfl ?_
      rw [HM.out]
      exact ⟨rfl, (hlw4.setCell (Nat.le_refl _) _).setCell (Nat.le_refl _) _⟩
end Go.Proofs.YtcognpibphpadaaGreatDoor
