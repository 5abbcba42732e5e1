/- bytes.Buffer: written to, read. -/
import Derived.Test.YtcognpibphpadaaGreatDoorZTake
import Derived.Shelf.Bytes.WriteAny
set_option linter.unusedVariables false
set_option linter.unusedSimpArgs false
namespace Go.Proofs.YtcognpibphpadaaGreatDoor
open Go.RowKit

/-- A buffer in block b that holds these bytes. -/
structure Buf (w : World) (b : Nat) (l : B) : Prop where
  out : Lib.IsBuffer 150 5 b b (bcs l) w
theorem Buf.lt {w : World} {b : Nat} {l : B} (h : Buf w b l) : b < w.heap.size := h.out.lt
theorem bcs_one (l : B) : ∀ v ∈ bcs l, v.oneCell' = true := fun v hv => by
  obtain ⟨c, _, rfl⟩ := List.mem_map.1 hv
  rfl
theorem bcs_append (a b : B) : bcs (a ++ b) = bcs a ++ bcs b := by unfold bcs; rw [List.map_append]
theorem bcs_length (a : B) : (bcs a).length = a.length := by unfold bcs; rw [List.length_map]
theorem buf_string (b : Nat) (l t : B) (w : World) (h : Buf w b l) (hl : l.length ≤ 1000000) (ht : t.length ≤ 1000000) :
    Calls Tryz.prog 115 #[.pointer (some ⟨b, 0, none⟩), .string (bs t)] w fun e w' => (∃ v, e = .returned v) ∧ Buf w' b (l ++ t) ∧ Low b w w' := by
  refine (Tryz.Buffer_WriteString b b (bcs l) (bs t) w h.out (Nat.le_of_lt h.lt) (bcs_one l) (by rw [bcs_length, bs_size]; omega)).mono ?_
  rintro e w' ⟨rfl, hI, hb⟩
  refine ⟨⟨_, rfl⟩, ⟨?_⟩, ⟨hb⟩⟩
  rw [bcs_append]
  rw [bs_data] at hI
  exact hI
theorem buf_some (b : Nat) (l t : B) (a : Addr) (c : Nat) (w : World) (h : Buf w b l) (hs : Bts w (some a) t) (hab : a.block ≠ b) (hl : l.length ≤ 1000000) (ht : t.length ≤ 1000000) :
    Calls Tryz.prog 116 #[.pointer (some ⟨b, 0, none⟩), .slice (some a) t.length c] w fun e w' => (∃ v, e = .returned v) ∧ Buf w' b (l ++ t) ∧ Low b w w' := by
  refine (Any.Buffer_Write_any Tryz.laysM180 b b (bcs l) (bcs t) a t.length c w h.out (Nat.le_of_lt h.lt) (bcs_one l) (bcs_length t) hab ?_ (bcs_one t) (by rw [bcs_length]; omega)).mono ?_
  · intro j v hj
    obtain ⟨hj2, rfl⟩ := List.getElem?_eq_some_iff.1 hj
    rw [bcs_length] at hj2
    obtain ⟨ad, e, hc⟩ := hs.out j hj2
    cases e
    rw [hc]
    simp [bcs]
  · rintro e w' ⟨rfl, hI, hb, _⟩
    exact ⟨⟨_, rfl⟩, ⟨by rw [bcs_append]; exact hI⟩, ⟨hb⟩⟩
set_option maxHeartbeats 8000000 in
set_option maxRecDepth 100000 in
theorem buf_none (b c : Nat) (l : B) (w : World) (h : Buf w b l) (hl : l.length ≤ 1000000) :
    Calls Tryz.prog 116 #[.pointer (some ⟨b, 0, none⟩), .slice none 0 c] w fun e w' => (∃ v, e = .returned v) ∧ Buf w' b l ∧ Low b w w' := by
  obtain ⟨hB, v0, lr, hbk, -, -⟩ := id h.out
  have c2 : w.cell? ⟨b, 2, none⟩ = some (.int .i8 lr) := by rw [Lib.cell_of_heap hbk]; rfl
  have f2 : w.frozen? ⟨b, 2, none⟩ = false := Lib.frozen_of_heap hbk 2
  have h1 := h.out.setLast 0
  have hl1 : Low b w (w.setCell ⟨b, 2, none⟩ (.int .i8 0)) := (Low.refl b w).setCell (Nat.le_refl _) _
  have hce : ∀ d dLen dCap W, (Builtin.copy_ #[23, 23] 3 #[.slice d dLen dCap, .slice none 0 c]).run Tryz.prog W = .ok (goInt 0) W := fun d dLen dCap W => run_copy_none W 23 23 3 5 d none dLen dCap 0 c Tryz.underlying23 (by kernel_rfl) (by simp)
  have HT := Lib.hid (fun (W : World) (hW : Lib.IsBuffer 150 5 b b (bcs l) W) => Tryz.Buffer_tryGrow b b 0 (bcs l) W hW)
  have H1 := Lib.hid h1
  have HL := Lib.hid hl1
  clear hbk h1 hl1
  go_enter Tryz.func116, Tryz.ntmps116
  go_wp2_with fail
  refine (HT.out _ H1.out).mono ?_
  rintro e W1 (⟨rfl, xs, hxl, hI, hbel⟩ | ⟨rfl, rfl, hnr⟩)
  · have hx0 : xs = [] := List.eq_nil_of_length_eq_zero hxl
    subst hx0
    rw [List.append_nil] at hI
    have HI := Lib.hid hI
    have HL2 := Lib.hid (HL.out.trans ⟨hbel⟩)
    obtain ⟨-, lr2, hc⟩ := hI.cases
    have hlen := bcs_length l
    rcases hc with ⟨hb0, hbk2⟩ | ⟨g, cap, cur, hbk2, -, -, hnc, hcm, -, -, -⟩
    · have d0 : W1.cell? ⟨b, 0, none⟩ = some (.slice none 0 0) := by rw [Lib.cell_of_heap hbk2]; rfl
      rw [hb0]
      clear c2 f2
      go_wp2
      all_goals go_ret2
      all_goals exact ⟨⟨_, rfl⟩, ⟨HI.out⟩, HL2.out⟩
    · have d0 : W1.cell? ⟨b, 0, none⟩ = some (.slice (some ⟨g, 0, none⟩) (bcs l).length cap) := by rw [Lib.cell_of_heap hbk2]; rfl
      unfold maxLen at hcm
      generalize (bcs l).length = n at d0 hnc ⊢
      clear c2 f2 hbk2
      go_wp2
      all_goals go_ret2
      all_goals exact ⟨⟨_, rfl⟩, ⟨HI.out⟩, HL2.out⟩
  · obtain ⟨_, _, _, _, hlt⟩ := hnr
    omega
/-- Write of whatever bytes. -/
theorem buf_write (b : Nat) (l t : B) (A : Option Addr) (c : Nat) (w : World) (h : Buf w b l) (hs : Bts w A t) (hab : ∀ a, A = some a → a.block ≠ b) (hl : l.length ≤ 1000000) (ht : t.length ≤ 1000000) :
    Calls Tryz.prog 116 #[.pointer (some ⟨b, 0, none⟩), .slice A t.length c] w fun e w' => (∃ v, e = .returned v) ∧ Buf w' b (l ++ t) ∧ Low b w w' := by
  cases A with
  | some a => exact buf_some b l t a c w h hs (hab a rfl) hl ht
  | none =>
    have h0 : t = [] := by
      cases t with
      | nil => rfl
      | cons x r =>
        obtain ⟨ad, e, _⟩ := hs.out 0 (by simp)
        cases e
    subst h0
    rw [List.append_nil]
    exact buf_none b c l w h hl
theorem buf_bytes (b : Nat) (l : B) (w : World) (h : Buf w b l) :
    Calls Tryz.prog 118 #[.pointer (some ⟨b, 0, none⟩)] w fun e w' => ∃ v, e = .returned v ∧ BOwn w' b v l ∧ Low w.heap.size w w' := by
  refine (Tryz.Buffer_Bytes b b (bcs l) w h.out).mono ?_
  rintro e w' ⟨v, rfl, ho, n, rfl⟩
  rw [bcs_length] at ho
  exact ⟨v, rfl, ⟨ho⟩, (Low.refl _ _).drewN n⟩
end Go.Proofs.YtcognpibphpadaaGreatDoor
