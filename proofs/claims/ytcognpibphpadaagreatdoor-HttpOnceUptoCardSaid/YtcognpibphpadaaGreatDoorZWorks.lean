/- The law's helpers: lines, wrong, works. -/
import Derived.Test.YtcognpibphpadaaGreatDoorZParse
set_option linter.unusedVariables false
set_option linter.unusedSimpArgs false
namespace Go.Proofs.YtcognpibphpadaaGreatDoor
open Go.RowKit

def ex1 : B := [71, 69, 84, 32, 47, 97, 32, 72, 84, 84, 80, 47, 49, 46, 49, 13, 10, 104, 111, 115, 116, 58, 32, 120, 13, 10, 13, 10]
set_option maxRecDepth 100000 in
theorem ex1_parse : parseF ex1 = .ok ⟨[71, 69, 84], [47, 97], 0, [([104, 111, 115, 116], [120])], []⟩ := by kernel_rfl
def ex2 : B := [80, 85, 84, 32, 47, 32, 72, 84, 84, 80, 47, 49, 46, 49, 13, 10, 72, 111, 115, 116, 58, 32, 120, 13, 10, 84, 114, 97, 110, 115, 102, 101, 114, 45, 69, 110, 99, 111, 100, 105, 110, 103, 58, 32, 67, 104, 117, 110, 107, 101, 100, 13, 10, 13, 10, 51, 13, 10, 97, 98, 99, 13, 10, 48, 13, 10, 13, 10]
set_option maxRecDepth 100000 in
theorem ex2_parse : parseF ex2 = .ok ⟨[80, 85, 84], [47], 0, [([72, 111, 115, 116], [120])], [97, 98, 99]⟩ := by kernel_rfl
def ex3 : B := [72, 84, 84, 80, 47, 49, 46, 49, 32, 50, 48, 48, 13, 10, 67, 111, 110, 116, 101, 110, 116, 45, 76, 101, 110, 103, 116, 104, 58, 32, 50, 13, 10, 13, 10, 97, 98]
set_option maxRecDepth 100000 in
theorem ex3_parse : parseF ex3 = .error 4 := by kernel_rfl
def ex4 : B := [71, 69, 84, 32, 47, 32, 72, 84, 84, 80, 47, 49, 46, 49, 13, 10, 72, 111, 115, 116, 58, 32, 120, 13, 10, 67, 111, 110, 116, 101, 110, 116, 45, 76, 101, 110, 103, 116, 104, 58, 32, 49, 13, 10, 67, 111, 110, 116, 101, 110, 116, 45, 76, 101, 110, 103, 116, 104, 58, 32, 49, 13, 10, 13, 10, 97]
set_option maxRecDepth 100000 in
theorem ex4_parse : parseF ex4 = .error 50 := by kernel_rfl
def ex5 : B := [71, 69, 84, 32, 47, 32, 72, 84, 84, 80, 47, 49, 46, 49, 13, 10, 13, 10]
set_option maxRecDepth 100000 in
theorem ex5_parse : parseF ex5 = .error 2 := by kernel_rfl
def ex6 : B := [71, 69, 84, 32, 47, 32, 72, 84, 84, 80, 47, 49, 46, 49, 13, 10, 72, 111, 115, 116, 58, 32, 120, 13, 10]
set_option maxRecDepth 100000 in
theorem ex6_parse : parseF ex6 = .error 3 := by kernel_rfl

/-- Strings in a row. -/
structure Strs (w : World) (A : Option Addr) (xs : List B) : Prop where
  out : ∀ j (h : j < xs.length), ∃ ad, A = some ad ∧ w.cell? (ad.add j) = some (.string (bs xs[j]))
/-- Bytes in a block that may be written behind. -/
structure Cv (w : World) (b g cp : Nat) (l : B) : Prop where
  low : b ≤ g
  lt : g < w.heap.size
  cap : l.length ≤ cp
  bytes : Bts w (some ⟨g, 0, none⟩) l
  room : ∀ j, j < cp → (w.cell? ⟨g, j, none⟩).isSome = true ∧ w.frozen? ⟨g, j, none⟩ = false
theorem Cv.far {w w1 : World} {b g cp : Nat} {l : B} (h : Cv w b g cp l) (hl : Low w.heap.size w w1) : Cv w1 b g cp l := by
  have e : w1.heap[g]? = w.heap[g]? := hl.out.block g h.lt
  refine ⟨h.low, Nat.lt_of_lt_of_le h.lt hl.size, h.cap, h.bytes.low hl (Nat.le_refl _), fun j hj => ?_⟩
  rw [World.cell?_of_block (a := ⟨g, j, none⟩) e, World.frozen?_of_block (a := ⟨g, j, none⟩) e]
  exact h.room j hj
theorem conv_cv (w : World) (s : ByteArray) : ∃ W1 cp, (convert 9 23 (.string s)).run Tryz.prog w = .ok (.slice (some ⟨w.heap.size, 0, none⟩) s.size cp) W1 ∧ Cv W1 w.heap.size w.heap.size cp s.data.toList ∧ Low w.heap.size w W1 := by
  have hsl : s.data.toList.length = s.size := by rw [Array.length_toList]; rfl
  refine ⟨Lib.bytesWorld w 5 s, Go.grownCap w s.size 0 5, Lib.run_convert_string_bytes w 9 23 5 s Tryz.underlying9 Tryz.underlying23 Tryz.underlying5, ⟨Nat.le_refl _, by rw [Lib.bytesWorld_size]; omega, by rw [hsl]; exact grownCap_ge w s.size 0 5, ⟨fun j hj => ⟨_, rfl, ?_⟩⟩, fun j hj => ?_⟩, ⟨⟨rfl, rfl, rfl, by rw [Lib.bytesWorld_size]; omega, fun k hk => Lib.bytesWorld_at_old w 5 s k hk⟩⟩⟩
  · have h := Lib.bytesWorld_cell w 5 s j (by omega)
    rw [add0, h]
    simp [List.getD_eq_getElem?_getD, List.getElem?_eq_getElem hj]
  · have h := Lib.bytesWorld_at_new w 5 s
    have hs : (Lib.bytesCells w 5 s).size = Go.grownCap w s.size 0 5 := by
      have := grownCap_ge w s.size 0 5
      simp [Lib.bytesCells]; omega
    refine ⟨?_, ?_⟩
    · rw [cell_of_row _ _ _ _ _ _ h]
      have : j < (Lib.bytesCells w 5 s).size := by omega
      simp [this]
    · unfold World.frozen?
      simp only [h]
      simp; omega
set_option maxHeartbeats 8000000 in
set_option maxRecDepth 100000 in
theorem lines_calls (A : Option Addr) (xs : List B) (c : Nat) (w : World) (hs : Strs w A xs) (hlen : xs.length ≤ 100000) (htl : (xs.flatMap (· ++ [13, 10])).length ≤ 1000000) :
    Calls Tryz.prog 47 #[.slice A xs.length c] w fun e w' => ∃ g cp, e = .returned (.slice (some ⟨g, 0, none⟩) (xs.flatMap (· ++ [13, 10])).length cp) ∧ Cv w' w.heap.size g cp (xs.flatMap (· ++ [13, 10])) ∧ Low w.heap.size w w' := by
  go_enter Tryz.func47, Tryz.ntmps47
  go_wp2
  go_loop [3, 4] (fun t i => ∃ k : Nat, k ≤ xs.length ∧ i = .int .i64 k ∧ t = .string (bs ((xs.take k).flatMap (· ++ [13, 10])))) (fun _ i => xs.length - (intOf i).toNat)
  case atStart => exact ⟨0, by omega, rfl, rfl⟩
  case round =>
    obtain ⟨k, hk, rfl, rfl⟩ := hrel
    by_cases hlt : k < xs.length
    · obtain ⟨ad, rfl, h0⟩ := hs.out k hlt
      have hd : decide ((k : Int) < (xs.length : Int)) = true := by simp; omega
      have hstep : (xs.take (k + 1)).flatMap (· ++ [13, 10]) = (xs.take k).flatMap (· ++ [13, 10]) ++ (xs[k] ++ [(13 : UInt8), 10]) := by
        rw [← List.take_append_getElem hlt, List.flatMap_append]
        simp
      have hle : ((xs.take (k + 1)).flatMap (· ++ [13, 10])).length ≤ (xs.flatMap (· ++ [(13 : UInt8), 10])).length := by
        conv => rhs; rw [← List.take_append_drop (k + 1) xs, List.flatMap_append, List.length_append]
        omega
      rw [hstep, List.length_append, List.length_append] at hle
      have hst := Lib.hid hstep
      clear hstep
      generalize xs[k] = x at h0 hst hle
      generalize hp : (xs.take k).flatMap (· ++ [(13 : UInt8), 10]) = q at hst hle ⊢
      clear hp
      have h1 : ¬ 9223372036854775807 < (bs q).size + (bs x).size := by rw [bs_size, bs_size]; omega
      have h2 : ¬ 9223372036854775807 < (bs q).size + (bs x).size + 2 := by rw [bs_size, bs_size]; have e2 : [(13 : UInt8), 10].length = 2 := rfl; omega
      go_wp2
      refine ⟨⟨k + 1, by omega, by go_num, ?_⟩, by simp [intOf]; omega⟩
      rw [hst.out]
      congr 1
      apply ByteArray.ext
      simp [bs, ByteArray.data_append]
    · have hd : decide ((k : Int) < (xs.length : Int)) = false := by simp; omega
      have hke : k = xs.length := by omega
      subst hke
      rw [List.take_length]
      obtain ⟨W1, cp, hcv, hC, hL⟩ := conv_cv w (bs (xs.flatMap (· ++ [13, 10])))
      rw [bs_data] at hC
      rw [bs_size] at hcv
      go_wp2
      go_ret
      exact ⟨_, cp, rfl, hC, hL⟩

theorem low_setCells (g : Nat) : ∀ (vs : List Value) (o : Nat) (w : World), Low g w (w.setCells g o vs) ∧ (w.setCells g o vs).heap.size = w.heap.size
  | [], o, w => ⟨Low.refl _ _, rfl⟩
  | v :: t, o, w => by
    obtain ⟨h1, h2⟩ := low_setCells g t (o + 1) (w.setCell ⟨g, o, none⟩ v)
    have h0 : Low g w (w.setCell ⟨g, o, none⟩ v) := (Low.refl g w).setCell (Nat.le_refl _) _
    exact ⟨h0.trans h1, h2.trans (by simp [World.setCell])⟩
/-- 'append(x, bytes...)' onto bytes that may be written behind. -/
theorem run_cv {w : World} (ty : TypeId) {b g cp : Nat} {l x : B} (ad : Addr) (c : Nat) (h : Cv w b g cp l) (hx : Bts w (some ad) x) (hl : l.length + x.length ≤ 1000000) :
    ∃ A' cap w', (Builtin.append_ #[23, 23] ty #[.slice (some ⟨g, 0, none⟩) l.length cp, .slice (some ad) x.length c]).run Tryz.prog w = .ok (.slice A' (l.length + x.length) cap) w' ∧ Bts w' A' (l ++ x) ∧ l.length + x.length ≤ cap ∧ (∀ ad, A' = some ad → ad.block < w'.heap.size) ∧ Low g w w' := by
  obtain ⟨i, z, h1, h2, h3, h4, h5⟩ := info5'
  have hnews : ∀ j u, (bcs x)[j]? = some u → w.cell? (ad.add j) = some u := fun j u hu => by
    simp only [bcs, List.getElem?_map, Option.map_eq_some_iff] at hu
    obtain ⟨cc, hc, rfl⟩ := hu
    obtain ⟨hj, rfl⟩ := List.getElem?_eq_some_iff.1 hc
    obtain ⟨ad', e, h⟩ := hx.out j hj
    cases e
    exact h
  have hone : ∀ u ∈ bcs x, u.oneCell' = true := by simp [bcs, Value.oneCell']
  by_cases hroom : l.length + x.length ≤ cp
  · have hr := run_append_room_cells (P := Tryz.prog) w 23 ty 5 i Tryz.underlying23 h1 g 0 l.length cp ad x.length c (bcs x) (by simp [bcs, h3]) hnews hone hroom
      (fun j hj => by rw [h3]; exact (h.room _ (by simp [bcs] at hj; omega)).1) (fun j hj => by rw [h3]; exact (h.room _ (by simp [bcs] at hj; omega)).2)
    refine ⟨_, cp, _, hr, ⟨fun j hj => ⟨_, rfl, ?_⟩⟩, hroom, fun ad e => ?_, ?_⟩
    · rw [add0, h3, Nat.mul_one, Nat.zero_add]
      by_cases hjl : j < l.length
      · rw [World.cell?_setCells_out g _ _ _ _ (fun _ _ => Or.inl hjl)]
        obtain ⟨ad', e, hc⟩ := h.bytes.out j hjl
        cases e
        rw [add0] at hc
        rw [hc, List.getElem_append_left hjl]
      · have hj2 : j - l.length < (bcs x).length := by simp [bcs] at hj ⊢; omega
        have := World.cell?_setCells_in g (bcs x) l.length w (fun k hk => (h.room _ (by simp [bcs] at hk; omega)).1) (j - l.length) hj2
        have e : l.length + (j - l.length) = j := by omega
        rw [e] at this
        rw [this, List.getElem_append_right (by omega)]
        simp [bcs]
    · cases e
      rw [(low_setCells g _ _ _).2]
      exact h.lt
    · exact (low_setCells g _ _ _).1
  · obtain ⟨v', w', hr, ho, hg⟩ := run_append_arg_grows (P := Tryz.prog) w 23 ty 5 i z 1 1 Tryz.underlying23 h1 h2 h3 h4 h5 (by omega) ⟨g, 0, none⟩ l.length cp (bcs l) (by simp [bcs])
      (fun j u hu => by
        simp only [bcs, List.getElem?_map, Option.map_eq_some_iff] at hu
        obtain ⟨cc, hc, rfl⟩ := hu
        obtain ⟨hj, rfl⟩ := List.getElem?_eq_some_iff.1 hc
        obtain ⟨ad', e, h⟩ := h.bytes.out j hj
        cases e
        exact h) ad x.length c (bcs x) (by simp [bcs]) hnews (by omega) (by simp only [maxLen]; omega) (by omega)
    have hbo : BOwn w' w.heap.size v' (l ++ x) := ⟨by
      have e : bcs (l ++ x) = bcs l ++ bcs x := by simp [bcs]
      rw [e, List.length_append]; exact ho⟩
    obtain ⟨A', cap, rfl, hc, hB, hA⟩ := hbo.slice
    rw [List.length_append] at *
    exact ⟨A', cap, w', hr, hB, hc, fun ad e => (hA ad e).2.1, ⟨⟨hg.os, hg.tape, hg.output, hg.size, fun k hk => hg.block k (Nat.lt_trans hk h.lt) (fun e => by cases e)⟩⟩⟩

theorem wpList_cv {w : World} {ops : Array Oper} {rest : List Oper} {o : Oper} {a : Act} {Q : Exit → Act → World → Prop} {b g cp : Nat} {l x : B} (ad : Addr) (c : Nat) (s xo : Operand) (h : Cv w b g cp l) (hx : Bts w (some ad) x)
    (hw : Region.wanted o (yielded ops a.tmps) = true) (ho : o.op = .call { callee := .builtin .append, args := #[s, xo], argTypes := #[23, 23] }) (hs : a.eval s = .slice (some ⟨g, 0, none⟩) l.length cp) (hxo : a.eval xo = .slice (some ad) x.length c)
    (hl : l.length + x.length ≤ 1000000)
    (h' : ∀ A' cap w', Bts w' A' (l ++ x) → l.length + x.length ≤ cap → (∀ ad, A' = some ad → ad.block < w'.heap.size) → Low g w w' → wpList Tryz.prog ops Q rest (a.put o.dst (.slice A' (l.length + x.length) cap)) w') : wpList Tryz.prog ops Q (o :: rest) a w := by
  refine BigFrame.wpList_want hw fun K hK => ?_
  obtain ⟨A', cap, w', hr, h1, h2, h3, h4⟩ := run_cv o.type ad c h hx hl
  unfold Oper.wp execOp
  simp only [ho, resolve, invoke, builtin, Sem.run_bind, Sem.run_pure, Result.andThen_ok, List.map_toArray, List.map_cons, List.map_nil, hs, hxo, hr]
  exact hK _ _ (h' A' cap w' h1 h2 h3 h4)

def wrongB (l : B) (want : Int) : Bool := match parseF l with
  | .ok _ => false
  | .error c => c == want
set_option maxHeartbeats 8000000 in
set_option maxRecDepth 100000 in
theorem wrong_calls (A : Option Addr) (l : B) (c : Nat) (want : Int) (w : World) (hl : Bts w A l) (hc : l.length ≤ c) (hA : ∀ ad, A = some ad → ad.block < w.heap.size) (hg : Glob w) (hw0 : want ≠ 0) :
    Calls Tryz.prog 13 #[.slice A l.length c, .int .i64 want] w fun e w' => e = .returned (.bool (wrongB l want)) ∧ Low w.heap.size w w' := by
  have HP := Lib.hid (parse_calls A l c w hl hc hA hg)
  have hw : wrongB l want = match parseF l with
    | .ok _ => false
    | .error c => c == want := rfl
  generalize parseF l = pf at HP hw
  go_enter Tryz.func13, Tryz.ntmps13
  go_wp2_with fail
  refine HP.out.mono ?_
  rcases pf with cc | m
  · rintro e w1 ⟨rfl, hl1⟩
    dsimp only at hw
    have HW := Lib.hid hw
    clear hw
    have hZ : ZRow (w1.alloc (.cells #[.string (bs []), .string (bs []), .int .i64 0, .slice none 0 0, .slice none 0 0] 29)) w1.heap.size (bs []) (bs []) 0 (.slice none 0 0) (.slice none 0 0) := ⟨heap_alloc_new w1 _⟩
    have z0 := hZ.cell 0
    have z2 := hZ.cell 2
    have z3 := hZ.cell 3
    have z4 := hZ.cell 4
    simp at z0 z2 z3 z4
    have he : ((bs []).toList == ([] : List UInt8)) = true := by rw [bs_list]; rfl
    have he' : (bs []).toList.isEmpty = true := by rw [bs_list]; rfl
    have hlw := hl1.alloc hl1.size (.cells #[.string (bs []), .string (bs []), .int .i64 0, .slice none 0 0, .slice none 0 0] 29)
    by_cases hcw : cc = want
    · have hq : (cc == want) = true := by rw [beq_iff_eq]; exact hcw
      go_wp2
      go_ret
      rw [HW.out, hq]
      exact ⟨rfl, hlw⟩
    · have hq : (cc == want) = false := by rw [beq_eq_false_iff_ne]; exact hcw
      go_wp2
      go_ret
      rw [HW.out, hq]
      exact ⟨rfl, hlw⟩
  · rintro e w1 ⟨⟨hA', hc', bA, bc, rfl, _⟩, hl1⟩
    dsimp only at hw
    have HW := Lib.hid hw
    clear hw
    have hq : ((0 : Int) == want) = false := by rw [beq_eq_false_iff_ne]; exact fun e => hw0 e.symm
    have hlw := hl1.alloc hl1.size (.cells #[.string (bs m.me), .string (bs m.pa), .int .i64 m.st, .slice hA' m.hs.length hc', .slice bA m.body.length bc] 29)
    go_wp2
    go_ret
    rw [HW.out]
    exact ⟨rfl, hlw⟩
end Go.Proofs.YtcognpibphpadaaGreatDoor
