/- http: what was read is looked at. -/
import Derived.Test.YtcognpibphpadaaGreatDoorZBody
set_option linter.unusedVariables false
set_option linter.unusedSimpArgs false
namespace Go.Proofs.YtcognpibphpadaaGreatDoor
open Go.RowKit

def lastF (l : B) (a : Nat) (m : Msg) : Except Int Unit := if a < l.length then .error 4 else if checkM m = 0 then .ok () else .error 2
def LTold (w w' : World) (g : Nat) (s : RS) (l body : B) (heads : List Hd) (e : Ending) : Except Int Unit → Prop
  | .ok _ => e = .returned (.bool true) ∧ BdS w' g s l body heads ∧ Low g w w'
  | .error c => e = .returned (.bool false) ∧ ∃ s', RBlk w' g s' ∧ s'.e = c ∧ Low g w w'

set_option maxHeartbeats 8000000 in
set_option maxRecDepth 100000 in
theorem last_calls (w : World) (g : Nat) (s : RS) (l : B) (m : Msg) (h : BdS w g s l m.body m.hs) (hme : s.me = bs m.me) (hpa : s.pa = bs m.pa) (hst : s.st = m.st)
    (hv : ∀ h ∈ m.hs, h.2.length ≤ 1048576) (hlen : m.hs.length ≤ 1048576) (hp : m.pa.length ≤ 1048576) (hbl : m.body.length ≤ 1048576) :
    Calls Tryz.prog 64 #[.pointer (some ⟨g, 0, none⟩)] w fun e w' => LTold w w' g s l m.body m.hs e (lastF l s.at_ m) := by
  have H := Lib.hid h
  have hglt := h.rd.blk.lt
  have hn := h.rd.n
  obtain ⟨A1, c1, hbv, _, _, _⟩ := h.body.slice
  obtain ⟨A2, c2, hhv, _, hHds, hHA⟩ := h.heads.slice
  have k0 := h.rd.blk.cell 0 (by omega)
  have k1 := h.rd.blk.cell 1 (by omega)
  simp [RS.cells] at k0 k1
  rw [hn] at k0
  by_cases hlt : s.at_ < l.length
  · have hl : lastF l s.at_ m = .error 4 := by unfold lastF; rw [if_pos hlt]
    rw [hl]
    have d1 : decide ((s.at_ : Int) < (l.length : Int)) = true := by simp; omega
    clear hHA hl h
    go_enter Tryz.func64, Tryz.ntmps64
    go_wp2
    go_quiet (fail)
    go_wp2_with (go_at_call 107; refine (fail_calls _ g _ 4 (H.out.rd.blk.drewN _) H.out.rd.e).mono ?_; rintro e w5 ⟨rfl, hR6⟩)
    go_ret
    exact ⟨rfl, _, hR6.blk, rfl, ((Low.refl g w).drewN _).trans (hR6.low (Nat.le_refl _) (H.out.rd.blk.drewN _).lt)⟩
  · have hl : lastF l s.at_ m = if checkM m = 0 then .ok () else .error 2 := by unfold lastF; rw [if_neg hlt]
    rw [hl]
    have d1 : decide ((s.at_ : Int) < (l.length : Int)) = false := by simp; omega
    have HC := Lib.hid (fun (w1 : World) (k : Low w.heap.size w w1) => check_calls m A2 A1 c2 c1 w1 (hHds.low k (Nat.le_refl _)) (fun ad e => Nat.lt_of_lt_of_le (hHA ad e).2.1 k.size) hv hlen hp hbl)
    generalize checkM m = ck at HC
    clear hHA hl h
    go_enter Tryz.func64, Tryz.ntmps64
    go_wp2
    go_quiet (fail)
    have hW0 := H.out.far ((Low.refl _ _).drewN nq)
    have hLW : Low w.heap.size w (w.drewN nq) := (Low.refl _ _).drewN nq
    generalize w.drewN nq = W at hW0 hLW ⊢
    have j3 := hW0.rd.blk.cell 3 (by omega)
    have j4 := hW0.rd.blk.cell 4 (by omega)
    have j5 := hW0.rd.blk.cell 5 (by omega)
    have j6 := hW0.rd.blk.cell 6 (by omega)
    have j7 := hW0.rd.blk.cell 7 (by omega)
    simp [RS.cells, hme, hpa, hst, hbv, hhv] at j3 j4 j5 j6 j7
    go_wp2_with fail
    refine (HC.out W hLW).mono ?_
    rintro e w2 ⟨rfl, hl2⟩
    have hW2 := hW0.far hl2
    have hL2 : Low g w w2 := (hLW.mono (Nat.le_of_lt hglt)).trans (hl2.mono (Nat.le_of_lt hW0.rd.blk.lt))
    by_cases hck : ck = 0
    · subst hck
      go_wp2
      go_ret
      exact ⟨rfl, hW2, hL2⟩
    · have dk : (ck != 0) = true := by rw [bne_iff_ne]; exact hck

      go_wp2_with (go_at_call 107; refine (fail_calls _ g _ 2 hW2.rd.blk hW2.rd.e).mono ?_; rintro e w5 ⟨rfl, hR6⟩)
      go_ret
      simp only [if_neg hck]
      exact ⟨rfl, _, hR6.blk, rfl, hL2.trans (hR6.low (Nat.le_refl _) hW2.rd.blk.lt)⟩
end Go.Proofs.YtcognpibphpadaaGreatDoor
