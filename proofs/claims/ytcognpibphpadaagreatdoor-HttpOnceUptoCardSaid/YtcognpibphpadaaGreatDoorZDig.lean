/- http.digits: a number of one to four digits. -/
import Derived.Test.YtcognpibphpadaaGreatDoorZNum2
import Derived.Test.YtcognpibphpadaaGreatDoorZAny
set_option linter.unusedVariables false
set_option linter.unusedSimpArgs false
namespace Go.Proofs.YtcognpibphpadaaGreatDoor
open Go.RowKit

def digF (base : Int) (l : B) : Option Int := if 1 ≤ l.length ∧ l.length ≤ 4 then numF base 0 l else none
def dAns : Option Int → Value
  | some n => .tuple #[.int .i64 n, .bool true]
  | none => .tuple #[.int .i64 0, .bool false]
theorem digI_sign : digI 43 = none ∧ digI 45 = none ∧ digI 95 = none := by decide +kernel
theorem numF_signed (base : Int) : ∀ (l : B) (acc : Int), signed l = true → numF base acc l = none := by
  intro l
  induction l with
  | nil => intro acc h; simp [signed] at h
  | cons c t ih =>
    intro acc h
    simp only [signed, List.any_cons, Bool.or_eq_true] at h
    simp only [numF]
    rcases h with h | h
    · have : digI c.toNat = none := by
        simp only [beq_iff_eq] at h
        rcases h with (rfl | rfl) | rfl
        · exact digI_sign.1
        · exact digI_sign.2.1
        · exact digI_sign.2.2
      rw [this]
    · cases digI c.toNat with
      | none => rfl
      | some d =>
        simp only
        split
        · exact ih _ (by simp only [signed, List.any_eq_true]; simpa using h)
        · rfl
theorem sl (s : ByteArray) : s.data.toList.length = s.size := by rw [Array.length_toList]; rfl

set_option maxHeartbeats 8000000 in
set_option maxRecDepth 100000 in
theorem digits10 (s : ByteArray) (w : World) (hg : Glob w) :
    Calls Tryz.prog 105 #[.string s, .int .i64 10] w fun e w' => e = .returned (dAns (digF 10 s.data.toList)) ∧ Low w.heap.size w w' := by
  have hsl := sl s
  by_cases h1 : 1 ≤ s.size
  · by_cases h4 : s.size ≤ 4
    · have d1 : decide ((s.size : Int) < 1) = false := by simp; omega
      have d4 : decide ((4 : Int) < (s.size : Int)) = false := by simp; omega
      have HC := Lib.hid (containsAny_calls s (by omega))
      cases hsg : signed s.data.toList with
      | true =>
        have HF := Lib.hid (show digF 10 s.data.toList = none by simp [digF, hsl, h1, h4, numF_signed _ _ _ hsg])
        rw [hsg] at HC
        clear hsl hsg
        go_enter Tryz.func105, Tryz.ntmps105
        go_wp2_with (first | (go_at_call 152; refine (HC.out _).mono ?_; rintro e w' ⟨rfl, hlw⟩))
        go_ret2
        rw [HF.out]
        exact ⟨rfl, hlw⟩
      | false =>
        obtain ⟨te, pe, hsyn⟩ := hg.syn
        have hlt := hg.lt
        have hp : ∀ h : 0 < s.size, s[0] ≠ 43 ∧ s[0] ≠ 45 := by
          intro h
          have hl : 0 < s.data.toList.length := by omega
          have e := list_at s 0 h
          simp only [signed, List.any_eq_false] at hsg
          have := hsg _ (List.getElem_mem hl)
          rw [e] at this
          simp at this
          exact this.1
        have HP := Lib.hid (fun w he => parseInt_10 s h1 h4 hp w te pe he)
        have HS := Lib.hid hsyn
        rw [hsg] at HC
        clear hsg hp hsyn
        cases hN : numF 10 0 s.data.toList with
        | none =>
          have HF := Lib.hid (show digF 10 s.data.toList = none by simp [digF, hsl, h1, h4, hN])
          rw [hN] at HP
          clear hN hsl
          go_enter Tryz.func105, Tryz.ntmps105
          go_wp2_with (first | (go_at_call 152; refine (HC.out _).mono ?_; rintro e w' ⟨rfl, hlw⟩) | (go_at_call 153; refine (HP.out _ ((hlw.cell (p := ⟨4, 0, none⟩) hlt).trans HS.out)).mono ?_; rintro e w'' ⟨⟨N, rfl⟩, hlw2⟩))
          go_quiet (fail)
          go_wp2
          go_ret2
          rw [HF.out]
          exact ⟨rfl, (hlw.trans (hlw2.mono hlw.size)).drewN _⟩
        | some n =>
          have HF := Lib.hid (show digF 10 s.data.toList = some n by simp [digF, hsl, h1, h4, hN])
          have hb := numF_bound 10 (by omega) s.data.toList 0 0 n (by omega) (by omega) (by decide) hN
          have hb0 := hb.1
          have hb1 := hb.2
          rw [hN] at HP
          clear hN hsl hb
          go_enter Tryz.func105, Tryz.ntmps105
          go_wp2_with (first | (go_at_call 152; refine (HC.out _).mono ?_; rintro e w' ⟨rfl, hlw⟩) | (go_at_call 153; refine (HP.out _ ((hlw.cell (p := ⟨4, 0, none⟩) hlt).trans HS.out)).mono ?_; rintro e w'' ⟨rfl, hlw2⟩))
          go_quiet (fail)
          go_wp2
          go_ret2
          rw [HF.out]
          exact ⟨rfl, (hlw.trans (hlw2.mono hlw.size)).drewN _⟩
    · have d1 : decide ((s.size : Int) < 1) = false := by simp; omega
      have d4 : decide ((4 : Int) < (s.size : Int)) = true := by simp; omega
      have HF := Lib.hid (show digF 10 s.data.toList = none by simp [digF, hsl, h4])
      clear hsl
      go_enter Tryz.func105, Tryz.ntmps105
      go_wp2
      go_ret2
      rw [HF.out]
      exact ⟨rfl, Low.refl _ _⟩
  · have d1 : decide ((s.size : Int) < 1) = true := by simp; omega
    have HF := Lib.hid (show digF 10 s.data.toList = none by simp [digF, hsl, h1])
    clear hsl
    go_enter Tryz.func105, Tryz.ntmps105
    go_wp2
    go_ret2
    rw [HF.out]
    exact ⟨rfl, Low.refl _ _⟩

set_option maxHeartbeats 8000000 in
set_option maxRecDepth 100000 in
theorem digits16 (s : ByteArray) (w : World) (hg : Glob w) :
    Calls Tryz.prog 105 #[.string s, .int .i64 16] w fun e w' => e = .returned (dAns (digF 16 s.data.toList)) ∧ Low w.heap.size w w' := by
  have hsl := sl s
  by_cases h1 : 1 ≤ s.size
  · by_cases h4 : s.size ≤ 4
    · have d1 : decide ((s.size : Int) < 1) = false := by simp; omega
      have d4 : decide ((4 : Int) < (s.size : Int)) = false := by simp; omega
      have HC := Lib.hid (containsAny_calls s (by omega))
      cases hsg : signed s.data.toList with
      | true =>
        have HF := Lib.hid (show digF 16 s.data.toList = none by simp [digF, hsl, h1, h4, numF_signed _ _ _ hsg])
        rw [hsg] at HC
        clear hsl hsg
        go_enter Tryz.func105, Tryz.ntmps105
        go_wp2_with (first | (go_at_call 152; refine (HC.out _).mono ?_; rintro e w' ⟨rfl, hlw⟩))
        go_ret2
        rw [HF.out]
        exact ⟨rfl, hlw⟩
      | false =>
        obtain ⟨te, pe, hsyn⟩ := hg.syn
        have hlt := hg.lt
        have hp : ∀ h : 0 < s.size, s[0] ≠ 43 ∧ s[0] ≠ 45 := by
          intro h
          have hl : 0 < s.data.toList.length := by omega
          have e := list_at s 0 h
          simp only [signed, List.any_eq_false] at hsg
          have := hsg _ (List.getElem_mem hl)
          rw [e] at this
          simp at this
          exact this.1
        have HP := Lib.hid (fun w he => parseInt_16 s h1 h4 hp w te pe he)
        have HS := Lib.hid hsyn
        rw [hsg] at HC
        clear hsg hp hsyn
        cases hN : numF 16 0 s.data.toList with
        | none =>
          have HF := Lib.hid (show digF 16 s.data.toList = none by simp [digF, hsl, h1, h4, hN])
          rw [hN] at HP
          clear hN hsl
          go_enter Tryz.func105, Tryz.ntmps105
          go_wp2_with (first | (go_at_call 152; refine (HC.out _).mono ?_; rintro e w' ⟨rfl, hlw⟩) | (go_at_call 153; refine (HP.out _ ((hlw.cell (p := ⟨4, 0, none⟩) hlt).trans HS.out)).mono ?_; rintro e w'' ⟨⟨N, rfl⟩, hlw2⟩))
          go_quiet (fail)
          go_wp2
          go_ret2
          rw [HF.out]
          exact ⟨rfl, (hlw.trans (hlw2.mono hlw.size)).drewN _⟩
        | some n =>
          have HF := Lib.hid (show digF 16 s.data.toList = some n by simp [digF, hsl, h1, h4, hN])
          have hb := numF_bound 16 (by omega) s.data.toList 0 0 n (by omega) (by omega) (by decide) hN
          have hb0 := hb.1
          have hb1 := hb.2
          rw [hN] at HP
          clear hN hsl hb
          go_enter Tryz.func105, Tryz.ntmps105
          go_wp2_with (first | (go_at_call 152; refine (HC.out _).mono ?_; rintro e w' ⟨rfl, hlw⟩) | (go_at_call 153; refine (HP.out _ ((hlw.cell (p := ⟨4, 0, none⟩) hlt).trans HS.out)).mono ?_; rintro e w'' ⟨rfl, hlw2⟩))
          go_quiet (fail)
          go_wp2
          go_ret2
          rw [HF.out]
          exact ⟨rfl, (hlw.trans (hlw2.mono hlw.size)).drewN _⟩
    · have d1 : decide ((s.size : Int) < 1) = false := by simp; omega
      have d4 : decide ((4 : Int) < (s.size : Int)) = true := by simp; omega
      have HF := Lib.hid (show digF 16 s.data.toList = none by simp [digF, hsl, h4])
      clear hsl
      go_enter Tryz.func105, Tryz.ntmps105
      go_wp2
      go_ret2
      rw [HF.out]
      exact ⟨rfl, Low.refl _ _⟩
  · have d1 : decide ((s.size : Int) < 1) = true := by simp; omega
    have HF := Lib.hid (show digF 16 s.data.toList = none by simp [digF, hsl, h1])
    clear hsl
    go_enter Tryz.func105, Tryz.ntmps105
    go_wp2
    go_ret2
    rw [HF.out]
    exact ⟨rfl, Low.refl _ _⟩

end Go.Proofs.YtcognpibphpadaaGreatDoor
