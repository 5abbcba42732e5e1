/- For the cards: readings of texts, numbers, seeds, opened. -/
import Derived.Test.YtcognpibphpadaaGreatDoorZCardA
import Derived.Test.YtcognpibphpadaaGreatDoorZMade0
set_option linter.unusedVariables false
set_option linter.unusedSimpArgs false
namespace Go.Proofs.YtcognpibphpadaaGreatDoor
open Go.ChangeShapes Go.WideShapes Go.ChangeAt Go.RowKit

theorem cells9 : Tryz.prog.cellsOf 9 = 1 := by kernel_rfl
theorem cells3 : Tryz.prog.cellsOf 3 = 1 := by kernel_rfl
theorem cells22 : Tryz.prog.cellsOf 22 = 1 := by kernel_rfl
theorem cells23 : Tryz.prog.cellsOf 23 = 1 := by kernel_rfl
theorem cells25 : Tryz.prog.cellsOf 25 = 6 := by kernel_rfl
theorem cells26 : Tryz.prog.cellsOf 26 = 4 := by kernel_rfl

theorem list6 {α : Type} (l : List α) (h : l.length = 6) : ∃ c0 c1 c2 c3 c4 c5, l = [c0, c1, c2, c3, c4, c5] := by
  match l, h with
  | [c0, c1, c2, c3, c4, c5], _ => exact ⟨c0, c1, c2, c3, c4, c5, rfl⟩
theorem list4 {α : Type} (l : List α) (h : l.length = 4) : ∃ c0 c1 c2 c3, l = [c0, c1, c2, c3] := by
  match l, h with
  | [c0, c1, c2, c3], _ => exact ⟨c0, c1, c2, c3, rfl⟩
/-- A reading of texts, opened. -/
theorem texts_open {H : Type} {enc : TypeId × Value → H} {W : World} {fuel : Nat} {cs : List Value} {y : DataW H × List MemPlace} (h : DataW.trod enc Tryz.prog W 0 (fun _ => true) true fuel 22 cs = some y) :
    ∃ (A : Option Addr) (l : List B) (c : Nat), cs = [.slice A l.length c] ∧ Strs W A l ∧ l.length ≤ c ∧ l.length ≤ Rows.uptoBulk y.1 ∧ ∀ s ∈ l, s.length ≤ Rows.uptoBulk y.1 := by
  rcases open_strings Tryz.underlying22 Tryz.underlying9 cells9 h with ⟨hc, hx⟩ | ⟨a, len, cap, ss, hcs, hb, hl, hm, hz, hx, hcell, hwf⟩
  · exact ⟨none, [], 0, hc, ⟨fun j hj => by cases hj⟩, Nat.le_refl _, Nat.zero_le _, fun s hs => by cases hs⟩
  · simp only [if_true] at hz
    obtain ⟨l, hlv⟩ : ∃ l : List B, l = (ss.take len).map fun s => s.data.toList := ⟨_, rfl⟩
    have hlen : l.length = len := by rw [hlv]; simp; omega
    have hbk : Rows.uptoBulkAll (strs (H := H) (ss.take len)) ≤ Rows.uptoBulk y.1 := by
      rw [hx]
      simp only [Rows.uptoBulk]
      omega
    refine ⟨some a, l, cap, by rw [hcs, hlen], ⟨fun j hj => ⟨a, rfl, ?_⟩⟩, by omega, ?_, fun s hs => ?_⟩
    · have hj2 : j < ss.length := by omega
      rw [hcell j hj2]
      have e1 : l[j] = ss[j].data.toList := by simp [hlv]
      have e2 : ss.getD j ByteArray.empty = ss[j] := by rw [List.getD_eq_getElem?_getD, List.getElem?_eq_getElem hj2]; rfl
      rw [e1, e2]
      congr 2
    · have := bulk_len (strs (H := H) (ss.take len))
      have e : (strs (H := H) (ss.take len)).length = len := by simp [strs]; omega
      omega
    · rw [hlv] at hs
      obtain ⟨t, ht, rfl⟩ := List.mem_map.1 hs
      have := bulk_part (H := H) (d := .lit (.string t.data.toList)) (l := strs (ss.take len)) (List.mem_map.2 ⟨t, ht, rfl⟩)
      simp only [Rows.uptoBulk] at this
      omega
theorem text_open {H : Type} {enc : TypeId × Value → H} {W : World} {fuel : Nat} {cs : List Value} {y : DataW H × List MemPlace} (h : DataW.trod enc Tryz.prog W 0 (fun _ => true) true fuel 9 cs = some y) :
    ∃ l : B, cs = [.string (bs l)] ∧ l.length ≤ Rows.uptoBulk y.1 := by
  obtain ⟨s, hc, hx, _⟩ := DataW.trod_string Tryz.underlying9 h
  refine ⟨s.data.toList, hc, ?_⟩
  rw [hx]
  simp [Rows.uptoBulk]
theorem int_open {H : Type} {enc : TypeId × Value → H} {W : World} {fuel : Nat} {cs : List Value} {y : DataW H × List MemPlace} (h : DataW.trod enc Tryz.prog W 0 (fun _ => true) true fuel 3 cs = some y) :
    ∃ n : Int, cs = [.int .i64 n] := by
  obtain ⟨z, h1, _⟩ := DataW.trod_int Tryz.underlying3 h
  exact ⟨z, h1⟩
set_option maxRecDepth 100000 in
/-- A seed, opened. -/
theorem seed_open {H : Type} {enc : TypeId × Value → H} {W : World} {base : Nat} {v : Value} {d : DataW H} {p : List MemPlace} (hv : Value.okWide Tryz.prog W .any base 25 v) (h : DataW.Trod enc Tryz.prog W 0 (fun _ => true) true 25 v d p) (hlt : ∀ x ∈ p, x.block < W.heap.size) :
    ∃ (x : Sd) (VA BA : Option Addr) (vc bc : Nat), v = .agg #[.int .i64 x.me, .int .i64 x.st, .string (bs x.pa), .string (bs x.host), .slice VA x.vals.length vc, .slice BA x.body.length bc] ∧ Strs W VA x.vals ∧ Bts W BA x.body ∧ x.body.length ≤ bc ∧
      x.pa.length ≤ Rows.uptoBulk d ∧ x.host.length ≤ Rows.uptoBulk d ∧ (∀ v ∈ x.vals, v.length ≤ Rows.uptoBulk d) ∧ x.vals.length ≤ Rows.uptoBulk d ∧ x.body.length ≤ Rows.uptoBulk d := by
  obtain ⟨cs, rfl, hsz⟩ := okWide_struct Tryz.underlying25 hv
  obtain ⟨l⟩ := cs
  have hl6 : l.length = 6 := by rw [← cells25, ← hsz]; rfl
  obtain ⟨c0, c1, c2, c3, c4, c5, rfl⟩ := list6 l hl6
  obtain ⟨fuel, hf⟩ := h
  obtain ⟨xs, n, _, hx, _, hlen, hfs⟩ := DataW.trod_struct Tryz.underlying25 hf
  have hlen6 : xs.length = 6 := hlen
  obtain ⟨y0, y1, y2, y3, y4, y5, rfl⟩ := list6 xs hlen6
  have g0 : DataW.trod enc Tryz.prog W 0 (fun _ => true) true n 3 (([c0, c1, c2, c3, c4, c5].drop 0).take (Tryz.prog.cellsOf 3)) = some y0 := hfs 0 _ rfl
  rw [cells3] at g0
  have g1 : DataW.trod enc Tryz.prog W 0 (fun _ => true) true n 3 (([c0, c1, c2, c3, c4, c5].drop 1).take (Tryz.prog.cellsOf 3)) = some y1 := hfs 1 _ rfl
  rw [cells3] at g1
  have g2 : DataW.trod enc Tryz.prog W 0 (fun _ => true) true n 9 (([c0, c1, c2, c3, c4, c5].drop 2).take (Tryz.prog.cellsOf 9)) = some y2 := hfs 2 _ rfl
  rw [cells9] at g2
  have g3 : DataW.trod enc Tryz.prog W 0 (fun _ => true) true n 9 (([c0, c1, c2, c3, c4, c5].drop 3).take (Tryz.prog.cellsOf 9)) = some y3 := hfs 3 _ rfl
  rw [cells9] at g3
  have g4 : DataW.trod enc Tryz.prog W 0 (fun _ => true) true n 22 (([c0, c1, c2, c3, c4, c5].drop 4).take (Tryz.prog.cellsOf 22)) = some y4 := hfs 4 _ rfl
  rw [cells22] at g4
  have g5 : DataW.trod enc Tryz.prog W 0 (fun _ => true) true n 23 (([c0, c1, c2, c3, c4, c5].drop 5).take (Tryz.prog.cellsOf 23)) = some y5 := hfs 5 _ rfl
  rw [cells23] at g5
  simp only [Prod.mk.injEq] at hx
  obtain ⟨rfl, rfl⟩ := hx
  have hmem : ∀ y ∈ [y0, y1, y2, y3, y4, y5], Rows.uptoBulk y.1 ≤ Rows.uptoBulk (.agg ([y0, y1, y2, y3, y4, y5].map (·.1)) : DataW H) := fun y hy => by
    have := bulk_part (List.mem_map.2 ⟨y, hy, rfl⟩ : y.1 ∈ [y0, y1, y2, y3, y4, y5].map (·.1))
    simp only [Rows.uptoBulk]
    omega
  obtain ⟨me, e0⟩ := int_open g0
  obtain ⟨st, e1⟩ := int_open g1
  obtain ⟨pa, e2, b2⟩ := text_open g2
  obtain ⟨ho, e3, b3⟩ := text_open g3
  obtain ⟨VA, vs, vc, e4, hvs, hvc, b4, b4'⟩ := texts_open g4
  obtain ⟨BA, bd, bc, e5, hbs, hbc, _, b5⟩ := bytes_open g5 (fun x hx => hlt x (by simp [hx]))
  simp at e0 e1 e2 e3 e4 e5
  subst e0 e1 e2 e3 e4 e5
  refine ⟨⟨me, st, pa, ho, vs, bd⟩, VA, BA, vc, bc, rfl, hvs, hbs, hbc, Nat.le_trans b2 (hmem y2 (by simp)), Nat.le_trans b3 (hmem y3 (by simp)), fun v hv => Nat.le_trans (b4' v hv) (hmem y4 (by simp)), Nat.le_trans b4 (hmem y4 (by simp)), Nat.le_trans b5 (hmem y5 (by simp))⟩
set_option maxRecDepth 100000 in
/-- Four numbers, opened. -/
theorem four_open {H : Type} {enc : TypeId × Value → H} {W : World} {base : Nat} {v : Value} {d : DataW H} {p : List MemPlace} (hv : Value.okWide Tryz.prog W .any base 26 v) (h : DataW.Trod enc Tryz.prog W 0 (fun _ => true) true 26 v d p) :
    ∃ q0 q1 q2 q3 : Int, v = .agg #[.int .i64 q0, .int .i64 q1, .int .i64 q2, .int .i64 q3] := by
  have hv2 := hv
  simp only [Value.okWide, Tryz.underlying26] at hv2
  obtain ⟨cs, rfl, hsz, _⟩ := hv2
  obtain ⟨l⟩ := cs
  have hl : l.length = 4 := by rw [← cells26, ← hsz]; rfl
  obtain ⟨c0, c1, c2, c3, rfl⟩ := list4 l hl
  obtain ⟨fuel, hf⟩ := h
  obtain ⟨xs, m, _, hx, _, hlen, hel⟩ := DataW.trod_array Tryz.underlying26 hf
  have g : ∀ i, i < 4 → ∃ y, DataW.trod enc Tryz.prog W 0 (fun _ => true) true m 3 (([c0, c1, c2, c3].drop i).take 1) = some y := fun i hi => by
    have := hel i hi
    rw [cells3, Nat.mul_one, List.getElem?_eq_getElem (by omega)] at this
    exact ⟨_, this⟩
  obtain ⟨y0, g0⟩ := g 0 (by omega)
  obtain ⟨y1, g1⟩ := g 1 (by omega)
  obtain ⟨y2, g2⟩ := g 2 (by omega)
  obtain ⟨y3, g3⟩ := g 3 (by omega)
  obtain ⟨q0, e0⟩ := int_open g0
  obtain ⟨q1, e1⟩ := int_open g1
  obtain ⟨q2, e2⟩ := int_open g2
  obtain ⟨q3, e3⟩ := int_open g3
  simp at e0 e1 e2 e3
  subst e0 e1 e2 e3
  exact ⟨q0, q1, q2, q3, rfl⟩
end Go.Proofs.YtcognpibphpadaaGreatDoor
