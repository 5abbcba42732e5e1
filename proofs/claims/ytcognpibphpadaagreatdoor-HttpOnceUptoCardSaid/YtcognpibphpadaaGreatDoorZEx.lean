/- The law's examples. -/
import Derived.Test.YtcognpibphpadaaGreatDoorZWorks
set_option linter.unusedVariables false
set_option linter.unusedSimpArgs false
namespace Go.Proofs.YtcognpibphpadaaGreatDoor
open Go.RowKit

theorem strs_new (w : World) (xs : List B) (o : Obj) (ho : o = .cells (xs.map fun x => Value.string (bs x)).toArray 9) : Strs (w.alloc o) (some ⟨w.heap.size, 0, none⟩) xs := by
  subst ho
  refine ⟨fun j hj => ⟨_, rfl, ?_⟩⟩
  rw [add0, cell_of_row _ _ _ _ _ _ (heap_alloc_new w _)]
  simp [hj]
theorem lines_lit (w : World) (o : Obj) (xs : List B) (L : B) (n N : Nat) (hN : w.heap.size = N) (ho : o = .cells (xs.map fun x => Value.string (bs x)).toArray 9) (hL : xs.flatMap (· ++ [13, 10]) = L) (hn : xs.length = n) (hs : n ≤ 100000) (hLl : L.length ≤ 1000000) :
    Calls Tryz.prog 47 #[.slice (some ⟨N, 0, none⟩) n n] (w.alloc o) fun e w' => ∃ g cp, e = .returned (.slice (some ⟨g, 0, none⟩) L.length cp) ∧ Cv w' w.heap.size g cp L ∧ Low w.heap.size w w' := by
  subst hn hL hN
  refine (lines_calls _ xs _ _ (strs_new w xs o ho) hs hLl).mono ?_
  rintro e w' ⟨g, cp, rfl, hC, hL⟩
  have hz : (w.alloc o).heap.size = w.heap.size + 1 := by simp
  exact ⟨g, cp, rfl, ⟨by have := hC.low; omega, hC.lt, hC.cap, hC.bytes, hC.room⟩, ((Low.refl _ _).alloc (Nat.le_refl _) o).trans (hL.mono (by omega))⟩
def ex1l : List B := [[71, 69, 84, 32, 47, 97, 32, 72, 84, 84, 80, 47, 49, 46, 49], [104, 111, 115, 116, 58, 32, 120], []]
def ex2l : List B := [[80, 85, 84, 32, 47, 32, 72, 84, 84, 80, 47, 49, 46, 49], [72, 111, 115, 116, 58, 32, 120], [84, 114, 97, 110, 115, 102, 101, 114, 45, 69, 110, 99, 111, 100, 105, 110, 103, 58, 32, 67, 104, 117, 110, 107, 101, 100], [], [51], [97, 98, 99], [48], []]
def ex3l : List B := [[72, 84, 84, 80, 47, 49, 46, 49, 32, 50, 48, 48], [67, 111, 110, 116, 101, 110, 116, 45, 76, 101, 110, 103, 116, 104, 58, 32, 50], []]
def ex4l : List B := [[71, 69, 84, 32, 47, 32, 72, 84, 84, 80, 47, 49, 46, 49], [72, 111, 115, 116, 58, 32, 120], [67, 111, 110, 116, 101, 110, 116, 45, 76, 101, 110, 103, 116, 104, 58, 32, 49], [67, 111, 110, 116, 101, 110, 116, 45, 76, 101, 110, 103, 116, 104, 58, 32, 49], []]
def ex5l : List B := [[71, 69, 84, 32, 47, 32, 72, 84, 84, 80, 47, 49, 46, 49], []]
def ex6l : List B := [[71, 69, 84, 32, 47, 32, 72, 84, 84, 80, 47, 49, 46, 49], [72, 111, 115, 116, 58, 32, 120]]
def ex3b : B := [72, 84, 84, 80, 47, 49, 46, 49, 32, 50, 48, 48, 13, 10, 67, 111, 110, 116, 101, 110, 116, 45, 76, 101, 110, 103, 116, 104, 58, 32, 50, 13, 10, 13, 10]
theorem ex3b_app : ex3b ++ [97, 98] = ex3 := by kernel_rfl
def ex4b : B := [71, 69, 84, 32, 47, 32, 72, 84, 84, 80, 47, 49, 46, 49, 13, 10, 72, 111, 115, 116, 58, 32, 120, 13, 10, 67, 111, 110, 116, 101, 110, 116, 45, 76, 101, 110, 103, 116, 104, 58, 32, 49, 13, 10, 67, 111, 110, 116, 101, 110, 116, 45, 76, 101, 110, 103, 116, 104, 58, 32, 49, 13, 10, 13, 10]
theorem ex4b_app : ex4b ++ [97] = ex4 := by kernel_rfl

set_option maxHeartbeats 8000000 in
set_option maxRecDepth 100000 in
theorem works_calls (w : World) (hg : Glob w) : Calls Tryz.prog 14 #[] w fun e w' => e = .returned (.bool true) ∧ Low w.heap.size w w' := by
  have HLn := Lib.hid lines_lit
  have HG := Lib.hid (fun w1 (k : Low w.heap.size w w1) => hg.low k hg.lt)
  have HPa := Lib.hid parse_calls
  go_enter Tryz.func14, Tryz.ntmps14
  go_wp2_with fail
  refine (HLn.out w _ ex1l ex1 3 _ rfl rfl (by kernel_rfl) rfl (by decide) (by decide)).mono ?_
  rintro e w1 ⟨g1, cp1, rfl, hC1, hL1⟩
  go_wp2_with fail
  have hT := HPa.out (some ⟨g1, 0, none⟩) ex1 cp1 w1 hC1.bytes hC1.cap (fun ad e => by cases e; exact hC1.lt) (HG.out _ hL1)
  rw [ex1_parse] at hT
  have HT := Lib.hid hT
  clear hT
  refine HT.out.mono ?_
  rintro e w2 ⟨⟨hA2, hc2, bA2, bc2, rfl, hhc2, hbc2, hH2, hB2, hlA2, hlB2⟩, hl2⟩
  dsimp only at hhc2 hbc2 hH2 hB2
  clear HT
  have hL2 := hL1.trans (hl2.mono hL1.size)
  go_wp2_with fail
  have hZ2 : ZRow (w2.alloc (.cells #[.string (bs [71, 69, 84]), .string (bs [47, 97]), .int .i64 0, .slice hA2 1 hc2, .slice bA2 0 bc2] 29)) w2.heap.size (bs [71, 69, 84]) (bs [47, 97]) 0 (.slice hA2 1 hc2) (.slice bA2 0 bc2) := ⟨heap_alloc_new w2 _⟩
  have hL3 := hL2.alloc hL2.size (.cells #[.string (bs [71, 69, 84]), .string (bs [47, 97]), .int .i64 0, .slice hA2 1 hc2, .slice bA2 0 bc2] 29)
  have hH3 := hH2.low ((Low.refl w2.heap.size w2).alloc (Nat.le_refl _) (.cells #[.string (bs [71, 69, 84]), .string (bs [47, 97]), .int .i64 0, .slice hA2 1 hc2, .slice bA2 0 bc2] 29)) (Nat.le_refl _)
  refine (HLn.out (w2.alloc (.cells #[.string (bs [71, 69, 84]), .string (bs [47, 97]), .int .i64 0, .slice hA2 1 hc2, .slice bA2 0 bc2] 29)) _ ex2l ex2 8 _ (by simp) rfl (by kernel_rfl) rfl (by decide) (by decide)).mono ?_
  have hz3 : (w2.alloc (.cells #[.string (bs [71, 69, 84]), .string (bs [47, 97]), .int .i64 0, .slice hA2 1 hc2, .slice bA2 0 bc2] 29)).heap.size = w2.heap.size + 1 := by simp
  generalize w2.alloc (.cells #[.string (bs [71, 69, 84]), .string (bs [47, 97]), .int .i64 0, .slice hA2 1 hc2, .slice bA2 0 bc2] 29) = w3 at hZ2 hL3 hH3 hz3
  rintro e w4 ⟨g4, cp4, rfl, hC4, hL4⟩
  have hZ4 := hZ2.low hL4 (by omega)
  have hH4 := hH3.low hL4 (Nat.le_refl _)
  have hL4 := hL3.trans (hL4.mono hL3.size)
  go_wp2_with fail
  have hT := HPa.out (some ⟨g4, 0, none⟩) ex2 cp4 w4 hC4.bytes hC4.cap (fun ad e => by cases e; exact hC4.lt) (HG.out _ hL4)
  rw [ex2_parse] at hT
  have HT := Lib.hid hT
  clear hT
  refine HT.out.mono ?_
  rintro e w5 ⟨⟨hA5, hc5, bA5, bc5, rfl, hhc5, hbc5, hH5, hB5, hlA5, hlB5⟩, hl5⟩
  dsimp only at hhc5 hbc5 hH5 hB5
  clear HT
  have hsz4 : w2.heap.size < w4.heap.size := by have := hC4.lt; have := hC4.low; omega
  have hZ5 := hZ4.low hl5 hsz4
  have hH5' := hH4.low hl5 (Nat.le_refl _)
  have hL5 := hL4.trans (hl5.mono hL4.size)
  have hZ6 : ZRow (w5.alloc (.cells #[.string (bs [80, 85, 84]), .string (bs [47]), .int .i64 0, .slice hA5 1 hc5, .slice bA5 3 bc5] 29)) w5.heap.size (bs [80, 85, 84]) (bs [47]) 0 (.slice hA5 1 hc5) (.slice bA5 3 bc5) := ⟨heap_alloc_new w5 _⟩
  have hl6 := (Low.refl w5.heap.size w5).alloc (Nat.le_refl _) (.cells #[.string (bs [80, 85, 84]), .string (bs [47]), .int .i64 0, .slice hA5 1 hc5, .slice bA5 3 bc5] 29)
  have hZ1 := hZ5.low hl6 (by have := hl5.size; omega)
  have hH1 := hH5'.low hl6 (Nat.le_refl _)
  have hB6 := hB5.low hl6 (Nat.le_refl _)
  have hL6 := hL5.trans (hl6.mono hL5.size)
  have hcv := hB6.conv bc5
  rw [show [(97 : UInt8), 98, 99].length = 3 from rfl] at hcv
  obtain ⟨ad, rfl, _, hx⟩ := hH1.out 0 (by simp)
  have a0 := hZ1.cell 0
  have a1 := hZ1.cell 1
  have a3 := hZ1.cell 3
  have b3 := hZ6.cell 3
  have b4 := hZ6.cell 4
  simp at a0 a1 a3 b3 b4 hx
  have hadd : ad.add 0 = ad := by obtain ⟨x, y, z⟩ := ad; unfold Addr.add; split <;> simp_all
  rw [hadd] at hx
  have e1 : ((bs [71, 69, 84]).toList == [71, 69, 84]) = true := by rw [bs_list]; rfl
  have e2 : ((bs [47, 97]).toList == [47, 97]) = true := by rw [bs_list]; rfl
  have e3 : ((bs [120]).toList == [120]) = true := by rw [bs_list]; rfl
  have e4 : ((bs [97, 98, 99]).toList == [97, 98, 99]) = true := by rw [bs_list]; rfl
  have hw6 : (w5.alloc (.cells #[.string (bs [80, 85, 84]), .string (bs [47]), .int .i64 0, .slice hA5 1 hc5, .slice bA5 3 bc5] 29)).heap.size = w5.heap.size + 1 := by simp
  clear hZ5 hH5' hC4 hC1 hZ4 hH4 hZ2 hH3 hl6 hB5 hH5 hlA5 hlB5 hlA2 hlB2 hH2 hB2
  go_wp2_with fail
  refine (HLn.out (w5.alloc (.cells #[.string (bs [80, 85, 84]), .string (bs [47]), .int .i64 0, .slice hA5 1 hc5, .slice bA5 3 bc5] 29)) _ ex3l ex3b 3 _ hw6 rfl (by kernel_rfl) rfl (by decide) (by decide)).mono ?_
  generalize w5.alloc (.cells #[.string (bs [80, 85, 84]), .string (bs [47]), .int .i64 0, .slice hA5 1 hc5, .slice bA5 3 bc5] 29) = w6 at hL6 hw6
  clear a0 a1 a3 b3 b4 hx hZ1 hH1 hB6 hcv e1 e2 e3 e4 hZ6
  rintro e w7 ⟨g7, cp7, rfl, hC7, hL7⟩
  have hL7 := hL6.trans (hL7.mono hL6.size)
  have hab : ∀ w : World, Bts (w.alloc (.cells #[.int .u8 97, .int .u8 98] 5)) (some ⟨w.heap.size, 0, none⟩) [97, 98] := fun w => ⟨fun j hj => ⟨_, rfl, by
    rw [add0, cell_of_row _ _ _ _ _ _ (heap_alloc_new w _)]
    match j, hj with
    | 0, _ => rfl
    | 1, _ => rfl⟩⟩
  have hl8 := (Low.refl w7.heap.size w7).alloc (Nat.le_refl _) (.cells #[.int .u8 97, .int .u8 98] 5)
  have hC8 := Lib.hid (hC7.far hl8)
  have hL8 := hL7.trans (hl8.mono hL7.size)
  have hB8 := Lib.hid (hab w7)
  have HWr := Lib.hid wrong_calls
  clear hab hl8
  go_wp2_with (first | (at_builtin; refine wpList_cv ⟨w7.heap.size, 0, none⟩ 2 (.tmp 61) (.tmp 62) hC8.out hB8.out (by rfl) rfl (by simp [Act.eval, Act.put]) (by simp [Act.eval, Act.put]) (by decide) ?_; intro A9 cap9 w9 hB9 hc9 hlt9 hl9))
  rw [ex3b_app] at hB9
  have hL9 := hL8.trans (hl9.mono (by have := hC7.low; have := hL6.size; omega))
  have hT := HWr.out A9 ex3 cap9 4 w9 hB9 (by rw [show ex3.length = ex3b.length + 2 by kernel_rfl]; exact hc9) hlt9 (HG.out _ hL9) (by decide)
  rw [show ex3.length = ex3b.length + 2 by kernel_rfl] at hT
  rw [show wrongB ex3 4 = true by unfold wrongB; rw [ex3_parse]; rfl] at hT
  have HT := Lib.hid hT
  clear hT hc9 hlt9
  refine HT.out.mono ?_
  rintro e w10 ⟨rfl, hl10⟩
  have hL10 := hL9.trans (hl10.mono hL9.size)
  go_wp2_with fail
  refine (HLn.out w10 _ ex4l ex4b 5 _ rfl rfl (by kernel_rfl) rfl (by decide) (by decide)).mono ?_
  rintro e w11 ⟨g11, cp11, rfl, hC11, hL11⟩
  have hL11 := hL10.trans (hL11.mono hL10.size)
  have hl12 := (Low.refl w11.heap.size w11).alloc (Nat.le_refl _) (.cells #[.int .u8 97] 5)
  have hC12 := Lib.hid (hC11.far hl12)
  have hL12 := hL11.trans (hl12.mono hL11.size)
  have hB12 : Hid (Bts (w11.alloc (.cells #[.int .u8 97] 5)) (some ⟨w11.heap.size, 0, none⟩) [97]) := Lib.hid ⟨fun j hj => ⟨_, rfl, by
    rw [add0, cell_of_row _ _ _ _ _ _ (heap_alloc_new w11 _)]
    match j, hj with
    | 0, _ => rfl⟩⟩
  clear hl12
  go_wp2_with (first | (at_builtin; refine wpList_cv ⟨w11.heap.size, 0, none⟩ 1 (.tmp 67) (.tmp 68) hC12.out hB12.out (by rfl) rfl (by simp [Act.eval, Act.put]) (by simp [Act.eval, Act.put]) (by decide) ?_; intro A13 cap13 w13 hB13 hc13 hlt13 hl13))
  rw [ex4b_app] at hB13
  have hL13 := hL12.trans (hl13.mono (by have := hC11.low; have := hL10.size; omega))
  have hT := HWr.out A13 ex4 cap13 50 w13 hB13 (by rw [show ex4.length = ex4b.length + 1 by kernel_rfl]; exact hc13) hlt13 (HG.out _ hL13) (by decide)
  rw [show ex4.length = ex4b.length + 1 by kernel_rfl] at hT
  rw [show wrongB ex4 50 = true by unfold wrongB; rw [ex4_parse]; rfl] at hT
  have HT := Lib.hid hT
  clear hT hc13 hlt13
  refine HT.out.mono ?_
  rintro e w14 ⟨rfl, hl14⟩
  have hL14 := hL13.trans (hl14.mono hL13.size)
  clear HT
  go_wp2_with fail
  refine (HLn.out w14 _ ex5l ex5 2 _ rfl rfl (by kernel_rfl) rfl (by decide) (by decide)).mono ?_
  rintro e w15 ⟨g15, cp15, rfl, hC15, hL15⟩
  have hL15 := hL14.trans (hL15.mono hL14.size)
  have hT := HWr.out (some ⟨g15, 0, none⟩) ex5 cp15 2 w15 hC15.bytes hC15.cap (fun ad e => by cases e; exact hC15.lt) (HG.out _ hL15) (by decide)
  rw [show wrongB ex5 2 = true by unfold wrongB; rw [ex5_parse]; rfl] at hT
  have HT := Lib.hid hT
  clear hT
  go_wp2_with fail
  refine HT.out.mono ?_
  rintro e w16 ⟨rfl, hl16⟩
  have hL16 := hL15.trans (hl16.mono hL15.size)
  clear HT
  go_wp2_with fail
  refine (HLn.out w16 _ ex6l ex6 2 _ rfl rfl (by kernel_rfl) rfl (by decide) (by decide)).mono ?_
  rintro e w17 ⟨g17, cp17, rfl, hC17, hL17⟩
  have hL17 := hL16.trans (hL17.mono hL16.size)
  have hT := HWr.out (some ⟨g17, 0, none⟩) ex6 cp17 3 w17 hC17.bytes hC17.cap (fun ad e => by cases e; exact hC17.lt) (HG.out _ hL17) (by decide)
  rw [show wrongB ex6 3 = true by unfold wrongB; rw [ex6_parse]; rfl] at hT
  have HT := Lib.hid hT
  clear hT
  go_wp2_with fail
  refine HT.out.mono ?_
  rintro e w18 ⟨rfl, hl18⟩
  have hL18 := hL17.trans (hl18.mono hL17.size)
  go_wp2
  go_ret
  exact ⟨rfl, hL18⟩
end Go.Proofs.YtcognpibphpadaaGreatDoor
