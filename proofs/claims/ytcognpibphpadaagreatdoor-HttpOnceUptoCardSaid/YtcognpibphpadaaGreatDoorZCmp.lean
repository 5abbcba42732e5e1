/- http.Same. -/
import Derived.Test.YtcognpibphpadaaGreatDoorZEq
import Derived.Test.YtcognpibphpadaaGreatDoorZParse
set_option linter.unusedVariables false
set_option linter.unusedSimpArgs false
namespace Go.Proofs.YtcognpibphpadaaGreatDoor
open Go.RowKit

set_option maxHeartbeats 8000000 in
set_option maxRecDepth 100000 in
theorem same_calls (m k : Msg) (hA bA hA2 bA2 : Option Addr) (hc bc hc2 bc2 : Nat) (w : World) (h1 : Hds w hA m.hs) (h2 : Hds w hA2 k.hs) (h3 : Bts w bA m.body) (h4 : Bts w bA2 k.body)
    (l1 : ∀ ad, hA = some ad → ad.block < w.heap.size) (l2 : ∀ ad, hA2 = some ad → ad.block < w.heap.size) (l3 : ∀ ad, bA = some ad → ad.block < w.heap.size) (l4 : ∀ ad, bA2 = some ad → ad.block < w.heap.size)
    (n1 : m.hs.length ≤ 1000000) (n2 : k.hs.length ≤ 1000000) :
    Calls Tryz.prog 31 #[.agg #[.string (bs m.me), .string (bs m.pa), .int .i64 m.st, .slice hA m.hs.length hc, .slice bA m.body.length bc], .agg #[.string (bs k.me), .string (bs k.pa), .int .i64 k.st, .slice hA2 k.hs.length hc2, .slice bA2 k.body.length bc2]] w
      fun e w' => e = .returned (.bool (sameM m k)) ∧ Low w.heap.size w w' := by
  obtain ⟨me, pa, st, hs, body⟩ := m
  obtain ⟨me2, pa2, st2, hs2, body2⟩ := k
  dsimp only at *
  have HS := Lib.hid (show sameM ⟨me, pa, st, hs, body⟩ ⟨me2, pa2, st2, hs2, body2⟩ = (me == me2 && pa == pa2 && st == st2 && decide (hs = hs2) && body == body2) from rfl)
  have H1 := Lib.hid (fun (w1 : World) (hl : Low w.heap.size w w1) => headSame_calls hA hA2 hs hs2 hc hc2 w1 (h1.far hl l1) (h2.far hl l2) n1 n2)
  have H2 := Lib.hid (fun (w1 : World) (hl : Low w.heap.size w w1) => equal_calls bA bA2 body body2 bc bc2 w1 (h3.far hl l3) (h4.far hl l4))
  have e1 : ((bs me).toList == (bs me2).toList) = (me == me2) := by rw [bs_list, bs_list]
  have e2 : ((bs pa).toList == (bs pa2).toList) = (pa == pa2) := by rw [bs_list, bs_list]
  have E1 := Lib.hid e1
  have E2 := Lib.hid e2
  rw [HS.out]
  generalize decide (hs = hs2) = d4 at H1 ⊢
  generalize (body == body2) = d5 at H2 ⊢
  generalize hs.length = n at H1 ⊢
  generalize hs2.length = n' at H1 ⊢
  generalize body.length = bn at H2 ⊢
  generalize body2.length = bn' at H2 ⊢
  have hl0 := (Low.refl w.heap.size w).alloc (Nat.le_refl _) (.cells #[.string (bs me), .string (bs pa), .int .i64 st, .slice hA n hc, .slice bA bn bc] 29)
  have HL := Lib.hid (hl0.alloc hl0.size (.cells #[.string (bs me2), .string (bs pa2), .int .i64 st2, .slice hA2 n' hc2, .slice bA2 bn' bc2] 29))
  have r1 : ZRow ((w.alloc (.cells #[.string (bs me), .string (bs pa), .int .i64 st, .slice hA n hc, .slice bA bn bc] 29)).alloc (.cells #[.string (bs me2), .string (bs pa2), .int .i64 st2, .slice hA2 n' hc2, .slice bA2 bn' bc2] 29)) w.heap.size (bs me) (bs pa) st (.slice hA n hc) (.slice bA bn bc) :=
    ⟨(Below.heap_alloc _ _ w.heap.size (by simp)).trans (heap_alloc_new w _)⟩
  have r2 : ZRow ((w.alloc (.cells #[.string (bs me), .string (bs pa), .int .i64 st, .slice hA n hc, .slice bA bn bc] 29)).alloc (.cells #[.string (bs me2), .string (bs pa2), .int .i64 st2, .slice hA2 n' hc2, .slice bA2 bn' bc2] 29)) (w.heap.size + 1) (bs me2) (bs pa2) st2 (.slice hA2 n' hc2) (.slice bA2 bn' bc2) :=
    ⟨by have := heap_alloc_new (w.alloc (.cells #[.string (bs me), .string (bs pa), .int .i64 st, .slice hA n hc, .slice bA bn bc] 29)) (.cells #[.string (bs me2), .string (bs pa2), .int .i64 st2, .slice hA2 n' hc2, .slice bA2 bn' bc2] 29); simpa using this⟩
  have R1 := Lib.hid r1
  have R2 := Lib.hid r2
  clear HS h1 h2 h3 h4 l1 l2 l3 l4 n1 n2 r1 r2 e1 e2 hl0
  cases q1 : (me == me2)
  · have z1 : ((bs me).toList == (bs me2).toList) = false := E1.out.trans q1
    go_enter Tryz.func31, Tryz.ntmps31
    go_wp2_with fail
    go_ret
    exact ⟨by simp, HL.out⟩
  · have z1 : ((bs me).toList == (bs me2).toList) = true := E1.out.trans q1
    cases q2 : (pa == pa2)
    · have z2 : ((bs pa).toList == (bs pa2).toList) = false := E2.out.trans q2
      go_enter Tryz.func31, Tryz.ntmps31
      go_wp2_with fail
      go_ret
      exact ⟨by simp, HL.out⟩
    · have z2 : ((bs pa).toList == (bs pa2).toList) = true := E2.out.trans q2
      cases q3 : (st == st2)
      · go_enter Tryz.func31, Tryz.ntmps31
        go_wp2_with fail
        go_ret
        exact ⟨by simp, HL.out⟩
      · have e3 : st = st2 := by simpa using q3
        subst e3
        clear q3
        cases d4
        · go_enter Tryz.func31, Tryz.ntmps31
          go_wp2_with (first | (go_at_call 74; refine (H1.out _ HL.out).mono ?_; rintro e w2 ⟨rfl, hl2⟩))
          go_ret
          exact ⟨by simp, HL.out.trans (hl2.mono (by simp; omega))⟩
        · go_enter Tryz.func31, Tryz.ntmps31
          go_wp2_with (first | (go_at_call 74; refine (H1.out _ HL.out).mono ?_; rintro e w2 ⟨rfl, hl2⟩; have hl3 := HL.out.trans (hl2.mono (by simp; omega)); have a4 := (R1.out.low hl2 (by simp; omega)).cell 4; have b4 := (R2.out.low hl2 (by simp)).cell 4; simp at a4 b4; have HL3 := Lib.hid hl3; clear hl3) | (go_at_call 75; refine (H2.out _ HL3.out).mono ?_; rintro e w3 ⟨rfl, rfl⟩))
          go_ret
          exact ⟨by simp, HL3.out⟩
end Go.Proofs.YtcognpibphpadaaGreatDoor
