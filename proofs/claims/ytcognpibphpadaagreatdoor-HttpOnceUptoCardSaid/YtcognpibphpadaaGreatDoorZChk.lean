/- http.Check. -/
import Derived.Test.YtcognpibphpadaaGreatDoorZPath
import Derived.Test.YtcognpibphpadaaGreatDoorZGetb
set_option linter.unusedVariables false
set_option linter.unusedSimpArgs false
namespace Go.Proofs.YtcognpibphpadaaGreatDoor
open Go.RowKit

/-- A message. -/
structure Msg where
  me : B
  pa : B
  st : Int
  hs : List Hd
  body : B
def hostB : B := [72, 111, 115, 116]
def fineB (me pa : B) (st : Int) : Bool := (methodB me && pathB pa && (st == 0)) || (me.isEmpty && pa.isEmpty && statusB st)
def checkM (m : Msg) : Int :=
  if fineB m.me m.pa m.st = false then 2 else if (m.hs.any fun h => !keptH h) = true then 2 else if ¬ checkH m.hs = 0 then 2 else if 2000 < m.body.length then 2
  else if methodB m.me = true ∧ (¬ (ofName m.hs hostB).length = 1 ∨ firstV (ofName m.hs hostB) = []) then 2 else 0

set_option maxHeartbeats 16000000 in
set_option maxRecDepth 100000 in
theorem check_calls (m : Msg) (hA bA : Option Addr) (hc bc : Nat) (w : World) (hh : Hds w hA m.hs) (hHA : ∀ ad, hA = some ad → ad.block < w.heap.size)
    (hv : ∀ h ∈ m.hs, h.2.length ≤ 1048576) (hlen : m.hs.length ≤ 1048576) (hp : m.pa.length ≤ 1048576) (hbl : m.body.length ≤ 1048576) :
    Calls Tryz.prog 30 #[.agg #[.string (bs m.me), .string (bs m.pa), .int .i64 m.st, .slice hA m.hs.length hc, .slice bA m.body.length bc]] w fun e w' => e = .returned (.int .i64 (checkM m)) ∧ Low w.heap.size w w' := by
  obtain ⟨me, pa, st, hs, body⟩ := m
  simp only at hh hv hlen hp hbl ⊢
  have HM := Lib.hid (fun w => method_calls (bs me) w)
  have HP := Lib.hid (fun w => path_calls (bs pa) w (by rw [bs_size]; exact hp))
  have HS := Lib.hid (fun w => status_calls st w)
  simp only [bs_data] at HM HP
  have HF := Lib.hid (show fineB me pa st = ((methodB me && pathB pa && (st == 0)) || (me.isEmpty && pa.isEmpty && statusB st)) from rfl)
  have HC := Lib.hid (show checkM ⟨me, pa, st, hs, body⟩ = if fineB me pa st = false then 2 else if (hs.any fun h => !keptH h) = true then 2 else if ¬ checkH hs = 0 then 2 else if 2000 < body.length then 2
    else if methodB me = true ∧ (¬ (ofName hs hostB).length = 1 ∨ firstV (ofName hs hostB) = []) then 2 else 0 from rfl)
  have e1 : (bs me).toList.isEmpty = me.isEmpty := by rw [bs_list]
  have e2 : (bs pa).toList.isEmpty = pa.isEmpty := by rw [bs_list]
  generalize hfi : fineB me pa st = f at HF HC
  generalize methodB me = a at HM HF HC
  generalize pathB pa = p at HP HF
  generalize statusB st = s at HS HF
  have e3 : (st == 0) = (st == 0) := rfl
  generalize hz : (st == 0) = z at HF
  generalize me.isEmpty = m1 at e1 HF
  generalize pa.isEmpty = m2 at e2 HF
  clear hfi e3
  go_enter Tryz.func30, Tryz.ntmps30
  go_upto_region 2 with (first | (go_at_call 66; refine (HM.out _).mono ?_; rintro e w1 ⟨rfl, rfl⟩))
  go_cut [4] (fun s4 wx => s4 = .bool f ∧ wx = w.alloc (.cells #[.string (bs me), .string (bs pa), .int .i64 st, .slice hA hs.length hc, .slice bA body.length bc] 29))
  case first =>
    have HF2 := HF.out
    clear HC
    cases a <;> cases p <;> cases z <;> cases m1 <;> cases m2 <;> cases s
    all_goals
      simp only [Bool.false_and, Bool.true_and, Bool.or_false, Bool.or_true, Bool.and_false, Bool.and_true, Bool.false_or, Bool.true_or] at HF2
      subst HF2
      go_wp2_with (first | (go_at_call 67; refine (HP.out _).mono ?_; rintro e w2 ⟨rfl, rfl⟩) | (go_at_call 68; refine (HS.out _).mono ?_; rintro e w2 ⟨rfl, rfl⟩))
      go_meet
      exact ⟨rfl, rfl⟩
  case rest =>
    obtain ⟨rfl, rfl⟩ := hcut
    have hL0 : Low w.heap.size w (w.alloc (.cells #[.string (bs me), .string (bs pa), .int .i64 st, .slice hA hs.length hc, .slice bA body.length bc] 29)) := (Low.refl _ _).alloc (Nat.le_refl _) _
    have hB0 : (w.alloc (.cells #[.string (bs me), .string (bs pa), .int .i64 st, .slice hA hs.length hc, .slice bA body.length bc] 29)).heap[w.heap.size]? = some (.cells #[.string (bs me), .string (bs pa), .int .i64 st, .slice hA hs.length hc, .slice bA body.length bc] 29 (0, 0)) := heap_alloc_new w _
    have hsz0 : (w.alloc (.cells #[.string (bs me), .string (bs pa), .int .i64 st, .slice hA hs.length hc, .slice bA body.length bc] 29)).heap.size = w.heap.size + 1 := by simp
    have HO := Lib.hid (containsFunc70_calls hA hs hc (w.alloc (.cells #[.string (bs me), .string (bs pa), .int .i64 st, .slice hA hs.length hc, .slice bA body.length bc] 29)) (hh.far hL0 hHA) hlen)
    generalize (hs.any fun h => !keptH h) = od at HO HC
    have HKK := fun w1 (hl : Low w.heap.size w w1) => headCheck_calls hA hs hc w1 (hh.far hl hHA) hv hlen
    have HGG := fun w1 (hl : Low w.heap.size w w1) => get_calls hA hs hc hostB w1 (hh.far hl hHA) (fun ad e => Nat.lt_of_lt_of_le (hHA ad e) hl.size) hlen
    generalize checkH hs = ck at HKK HC
    generalize hfv : firstV (ofName hs hostB) = fv at HGG HC
    generalize (ofName hs hostB).length = nn at HGG HC
    clear hfv
    have HK := Lib.hid HKK
    have HG := Lib.hid HGG
    clear HKK HGG HF HP HS e1 e2
    cases f
    · have HC2 := HC.out
      rw [if_pos rfl] at HC2
      have HC3 := Lib.hid HC2
      clear HC2
      go_wp2_with (first | (go_at_call 69; refine HO.out.mono ?_; rintro e w1 ⟨rfl, hl1⟩))
      go_ret
      rw [HC3.out]
      exact ⟨rfl, hL0.trans (hl1.mono (by omega))⟩
    · have HC2 := HC.out
      rw [if_neg (by simp)] at HC2
      cases od
      · rw [if_neg (by simp)] at HC2
        have HC3 := Lib.hid HC2
        clear HC2
        go_wp2_with fail
        refine HO.out.mono ?_
        rintro e w1 ⟨rfl, hl1⟩
        have hL1 := hL0.trans (hl1.mono (by omega))
        have hB1 := (hl1.out.block _ (by omega)).trans hB0
        have c3 : w1.cell? ⟨w.heap.size, 3, none⟩ = some (.slice hA hs.length hc) := by rw [cell_of_row _ _ _ _ _ _ hB1]; rfl
        have hz1 := hl1.size
        go_wp2_with fail
        refine (HK.out _ hL1).mono ?_
        rintro e w2 ⟨rfl, hl2⟩
        have hL2 := hL1.trans (hl2.mono hL1.size)
        have hB2 := (hl2.out.block w.heap.size (by omega)).trans hB1
        have d3 : w2.cell? ⟨w.heap.size, 3, none⟩ = some (.slice hA hs.length hc) := by rw [cell_of_row _ _ _ _ _ _ hB2]; rfl
        have d4 : w2.cell? ⟨w.heap.size, 4, none⟩ = some (.slice bA body.length bc) := by rw [cell_of_row _ _ _ _ _ _ hB2]; rfl
        have hz2 := hl2.size
        by_cases hck : ck = 0
        · have HC4 := HC3.out
          rw [if_neg (by simp [hck])] at HC4
          subst hck
          by_cases hbig : 2000 < body.length
          · rw [if_pos hbig] at HC4
            have dbig : decide ((2000 : Int) < (body.length : Int)) = true := by simp; omega
            have HC5 := Lib.hid HC4
            clear HC4 hbig
            go_wp2
            go_ret
            rw [HC5.out]
            exact ⟨rfl, hL2⟩
          · rw [if_neg hbig] at HC4
            have dbig : decide ((2000 : Int) < (body.length : Int)) = false := by simp; omega
            have HC5 := Lib.hid HC4
            clear HC4 hbig
            go_wp2_with fail
            refine (HG.out _ hL2).mono ?_
            rintro e w3 ⟨rfl, hl3⟩
            have hL3 := hL2.trans (hl3.mono hL2.size)
            cases a
            · go_wp2
              go_ret
              rw [HC5.out]
              exact ⟨by simp, hL3⟩
            · by_cases hn : nn = 1
              · subst hn
                cases fv with
                | nil =>
                  have hne : (bs ([] : B)).toList.isEmpty = true := by rw [bs_list]; rfl
                  go_wp2
                  go_ret
                  rw [HC5.out]
                  exact ⟨by simp, hL3⟩
                | cons x y =>
                  have hne : (bs (x :: y)).toList.isEmpty = false := by rw [bs_list]; rfl
                  go_wp2
                  go_ret
                  rw [HC5.out]
                  exact ⟨by simp, hL3⟩
              · have dn : ((nn : Int) != 1) = true := by rw [bne_iff_ne]; omega
                have HN := Lib.hid hn
                clear hn
                go_wp2
                go_ret
                rw [HC5.out]
                exact ⟨by simp [HN.out], hL3⟩
        · have HC4 := HC3.out
          rw [if_pos hck] at HC4
          have dk : (ck != 0) = true := by rw [bne_iff_ne]; exact hck
          have HC5 := Lib.hid HC4
          clear HC4 hck
          go_wp2
          go_ret
          rw [HC5.out]
          exact ⟨rfl, hL2⟩
      · rw [if_pos rfl] at HC2
        have HC3 := Lib.hid HC2
        clear HC2
        go_wp2_with (first | (go_at_call 69; refine HO.out.mono ?_; rintro e w1 ⟨rfl, hl1⟩))
        go_ret
        rw [HC3.out]
        exact ⟨rfl, hL0.trans (hl1.mono (by omega))⟩
end Go.Proofs.YtcognpibphpadaaGreatDoor
