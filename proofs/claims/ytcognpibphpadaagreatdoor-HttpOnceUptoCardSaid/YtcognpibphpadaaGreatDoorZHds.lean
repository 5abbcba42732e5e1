/- Rows of headers that are read; head.Check, http.kept; slices.ContainsFunc at both. -/
import Derived.Test.YtcognpibphpadaaGreatDoorZLine
set_option linter.unusedVariables false
set_option linter.unusedSimpArgs false
namespace Go.Proofs.YtcognpibphpadaaGreatDoor
open Go.RowKit

abbrev Hd := B × B
/-- Headers that are read: two cells each. -/
structure Hds (w : World) (A : Option Addr) (l : List Hd) : Prop where
  out : ∀ j (h : j < l.length), ∃ ad, A = some ad ∧ w.cell? (ad.add (j * 2)) = some (.string (bs l[j].1)) ∧ w.cell? ⟨(ad.add (j * 2)).block, (ad.add (j * 2)).off + 1, none⟩ = some (.string (bs l[j].2))
theorem Hds.far {w w1 : World} {A : Option Addr} {l : List Hd} (h : Hds w A l) {b : Nat} (hl : Low b w w1) (hA : ∀ ad, A = some ad → ad.block < b) : Hds w1 A l := ⟨fun j hj => by
  obtain ⟨ad, e, h0, h1⟩ := h.out j hj
  exact ⟨ad, e, (hl.cell (p := ad.add (j * 2)) (by rw [add_block]; exact hA ad e)).trans h0, (hl.cell (p := ⟨(ad.add (j * 2)).block, (ad.add (j * 2)).off + 1, none⟩) (by show (ad.add (j * 2)).block < b; rw [add_block]; exact hA ad e)).trans h1⟩⟩
theorem Hds.low {w w1 : World} {A : Option Addr} {l : List Hd} (h : Hds w A l) {b : Nat} (hl : Low b w w1) (hb : w.heap.size ≤ b) : Hds w1 A l := ⟨fun j hj => by
  obtain ⟨ad, e, h0, h1⟩ := h.out j hj
  have hlt := World.block_lt_of_cell? w _ h0
  rw [add_block] at hlt
  exact ⟨ad, e, (hl.cell (p := ad.add (j * 2)) (by rw [add_block]; omega)).trans h0, (hl.cell (p := ⟨(ad.add (j * 2)).block, (ad.add (j * 2)).off + 1, none⟩) (by show (ad.add (j * 2)).block < b; rw [add_block]; omega)).trans h1⟩⟩
theorem Hds.drewN {w : World} {A : Option Addr} {l : List Hd} (h : Hds w A l) (n : Nat) : Hds (w.drewN n) A l := ⟨h.out⟩

def mayH (h : Hd) : Bool := mayB h.1 h.2
set_option maxHeartbeats 8000000 in
set_option maxRecDepth 100000 in
theorem check1_calls (n v : B) (w : World) (hn : v.length ≤ 1048576) : Calls Tryz.prog 122 #[.agg #[.string (bs n), .string (bs v)]] w fun e w' => e = .returned (.bool (!mayH (n, v))) ∧ Low w.heap.size w w' := by
  have HM := Lib.hid (fun w => may_calls (bs n) (bs v) w (by rw [bs_size]; exact hn))
  simp only [bs_data] at HM
  have HE := Lib.hid (show mayH (n, v) = mayB n v from rfl)
  go_enter Tryz.func122, Tryz.ntmps122
  go_wp2_with (first | (go_at_call 123; refine (HM.out _).mono ?_; rintro e w2 ⟨rfl, hl2⟩))
  go_ret
  rw [HE.out]
  exact ⟨rfl, ((Low.refl _ _).alloc (Nat.le_refl _) _).trans (hl2.mono (by simp))⟩

def lenB : B := [67, 111, 110, 116, 101, 110, 116, 45, 76, 101, 110, 103, 116, 104]
def codB : B := [84, 114, 97, 110, 115, 102, 101, 114, 45, 69, 110, 99, 111, 100, 105, 110, 103]
def conB : B := [67, 111, 110, 110, 101, 99, 116, 105, 111, 110]
theorem isLength_calls (s : ByteArray) (w : World) : Calls Tryz.prog 110 #[.string s] w fun e w' => e = .returned (.bool (alike s.data.toList lenB)) ∧ Low w.heap.size w w' := by
  have HM := Lib.hid (fun w => alike_calls s ⟨#[67, 111, 110, 116, 101, 110, 116, 45, 76, 101, 110, 103, 116, 104]⟩ w)
  go_enter Tryz.func110, Tryz.ntmps110
  go_wp2_with (first | (go_at_call 121; refine (HM.out _).mono ?_; rintro e w2 ⟨rfl, hl2⟩))
  go_ret
  exact ⟨rfl, hl2⟩
theorem isCoding_calls (s : ByteArray) (w : World) : Calls Tryz.prog 111 #[.string s] w fun e w' => e = .returned (.bool (alike s.data.toList codB)) ∧ Low w.heap.size w w' := by
  have HM := Lib.hid (fun w => alike_calls s ⟨#[84, 114, 97, 110, 115, 102, 101, 114, 45, 69, 110, 99, 111, 100, 105, 110, 103]⟩ w)
  go_enter Tryz.func111, Tryz.ntmps111
  go_wp2_with (first | (go_at_call 121; refine (HM.out _).mono ?_; rintro e w2 ⟨rfl, hl2⟩))
  go_ret
  exact ⟨rfl, hl2⟩
def keptB (l : B) : Bool := !alike l lenB && !alike l codB && !alike l conB
set_option maxHeartbeats 8000000 in
set_option maxRecDepth 100000 in
theorem kept_calls (s : ByteArray) (w : World) : Calls Tryz.prog 71 #[.string s] w fun e w' => e = .returned (.bool (keptB s.data.toList)) ∧ Low w.heap.size w w' := by
  have HL := Lib.hid (isLength_calls s)
  have HC := Lib.hid (isCoding_calls s)
  have HN := Lib.hid (fun w => alike_calls s ⟨#[67, 111, 110, 110, 101, 99, 116, 105, 111, 110]⟩ w)
  have HK := Lib.hid (show keptB s.data.toList = (!alike s.data.toList lenB && !alike s.data.toList codB && !alike s.data.toList (ByteArray.mk #[67, 111, 110, 110, 101, 99, 116, 105, 111, 110]).data.toList) from rfl)
  generalize alike s.data.toList lenB = a at HL HK
  generalize alike s.data.toList codB = b at HC HK
  generalize alike s.data.toList (ByteArray.mk #[67, 111, 110, 110, 101, 99, 116, 105, 111, 110]).data.toList = c at HN HK
  cases a
  · cases b
    · go_enter Tryz.func71, Tryz.ntmps71
      go_wp2_with (first | (go_at_call 110; refine (HL.out _).mono ?_; rintro e w1 ⟨rfl, hl1⟩) | (go_at_call 111; refine (HC.out _).mono ?_; rintro e w2 ⟨rfl, hl2⟩) | (go_at_call 121; refine (HN.out _).mono ?_; rintro e w3 ⟨rfl, hl3⟩))
      go_ret
      rw [HK.out]
      have := hl1.size
      have := hl2.size
      exact ⟨by simp, (hl1.trans (hl2.mono (by omega))).trans (hl3.mono (by omega))⟩
    · go_enter Tryz.func71, Tryz.ntmps71
      go_wp2_with (first | (go_at_call 110; refine (HL.out _).mono ?_; rintro e w1 ⟨rfl, hl1⟩) | (go_at_call 111; refine (HC.out _).mono ?_; rintro e w2 ⟨rfl, hl2⟩))
      go_ret
      rw [HK.out]
      exact ⟨rfl, hl1.trans (hl2.mono hl1.size)⟩
  · go_enter Tryz.func71, Tryz.ntmps71
    go_wp2_with (first | (go_at_call 110; refine (HL.out _).mono ?_; rintro e w1 ⟨rfl, hl1⟩))
    go_ret
    rw [HK.out]
    exact ⟨rfl, hl1⟩
def keptH (h : Hd) : Bool := keptB h.1
set_option maxHeartbeats 8000000 in
set_option maxRecDepth 100000 in
theorem kept1_calls (n v : B) (w : World) : Calls Tryz.prog 70 #[.agg #[.string (bs n), .string (bs v)]] w fun e w' => e = .returned (.bool (!keptH (n, v))) ∧ Low w.heap.size w w' := by
  have HM := Lib.hid (fun w => kept_calls (bs n) w)
  simp only [bs_data] at HM
  have HE := Lib.hid (show keptH (n, v) = keptB n from rfl)
  go_enter Tryz.func70, Tryz.ntmps70
  go_wp2_with (first | (go_at_call 71; refine (HM.out _).mono ?_; rintro e w2 ⟨rfl, hl2⟩))
  go_ret
  rw [HE.out]
  exact ⟨rfl, ((Low.refl _ _).alloc (Nat.le_refl _) _).trans (hl2.mono (by simp))⟩

set_option maxHeartbeats 8000000 in
set_option maxRecDepth 100000 in
theorem indexFunc122_calls (A : Option Addr) (l : List Hd) (c : Nat) (w : World) (hh : Hds w A l) (hv : ∀ h ∈ l, h.2.length ≤ 1048576) (hlen : l.length ≤ 1048576) : Calls Tryz.prog 120 #[.slice A l.length c, .func (.func 122) #[] #[]] w fun e w' => (∃ i, e = .returned (.int .i64 i) ∧ decide (0 ≤ i) = l.any (fun h => !mayH h)) ∧ Low w.heap.size w w' := by
  go_enter Tryz.func120, Tryz.ntmps120
  go_wp2
  go_loopw [5, 8] (fun _ i wr => ∃ k : Nat, k ≤ l.length ∧ i = .int .i64 k ∧ Low w.heap.size w wr ∧ Hid (l.any (fun h => !mayH h) = (l.drop k).any (fun h => !mayH h))) (fun _ i _ => l.length - (intOf i).toNat)
  case atStart => exact ⟨0, by omega, rfl, Low.refl _ _, rfl⟩
  case round =>
    obtain ⟨k, hk, rfl, hlw, HA⟩ := hrel
    by_cases hlt : k < l.length
    · obtain ⟨ad, rfl, h0, h1⟩ := (hh.low hlw (Nat.le_refl _)).out k hlt
      have HD := Lib.hid (List.drop_eq_getElem_cons hlt)
      have hv1 := hv _ (List.getElem_mem hlt)
      generalize l[k] = h at h0 h1 HD hv1
      obtain ⟨n, v⟩ := h
      simp only at h0 h1 hv1
      have HC := Lib.hid (fun w => check1_calls n v w hv1)
      have HS := Lib.hid (show (l.drop k).any (fun h => !mayH h) = (!mayH (n, v) || (l.drop (k + 1)).any (fun h => !mayH h)) by rw [HD.out, List.any_cons])
      generalize mayH (n, v) = q at HC HS
      have hz := hlw.size
      cases q
      · go_wp2_with (first | (go_at_call 122; refine (HC.out _).mono ?_; rintro e w2 ⟨rfl, hl2⟩))
        go_ret
        refine ⟨⟨_, rfl, ?_⟩, hlw.trans (hl2.mono hz)⟩
        rw [HA.out, HS.out]
        simp
      · go_wp2_with (first | (go_at_call 122; refine (HC.out _).mono ?_; rintro e w2 ⟨rfl, hl2⟩))
        go_roundw
        case rel => exact ⟨k + 1, by omega, by go_num, hlw.trans (hl2.mono hz), by rw [Hid, HA.out, HS.out]; simp⟩
        case measure => simp [intOf]; omega
    · go_wp2
      go_ret
      refine ⟨⟨_, rfl, ?_⟩, hlw⟩
      rw [HA.out, List.drop_of_length_le (by omega)]
      rfl
set_option maxHeartbeats 8000000 in
set_option maxRecDepth 100000 in
theorem containsFunc122_calls (A : Option Addr) (l : List Hd) (c : Nat) (w : World) (hh : Hds w A l) (hv : ∀ h ∈ l, h.2.length ≤ 1048576) (hlen : l.length ≤ 1048576) : Calls Tryz.prog 69 #[.slice A l.length c, .func (.func 122) #[] #[]] w fun e w' => e = .returned (.bool (l.any fun h => !mayH h)) ∧ Low w.heap.size w w' := by
  have HI := Lib.hid (indexFunc122_calls A l c w hh hv hlen)
  go_enter Tryz.func69, Tryz.ntmps69
  go_wp2_with (first | (go_at_call 120; refine HI.out.mono ?_; rintro e w2 ⟨⟨i, rfl, hi⟩, hl2⟩; have Hi := Lib.hid hi; clear hi))
  go_ret
  rw [← Hi.out]
  exact ⟨rfl, hl2⟩
set_option maxHeartbeats 8000000 in
set_option maxRecDepth 100000 in
theorem indexFunc70_calls (A : Option Addr) (l : List Hd) (c : Nat) (w : World) (hh : Hds w A l) (hlen : l.length ≤ 1048576) : Calls Tryz.prog 120 #[.slice A l.length c, .func (.func 70) #[] #[]] w fun e w' => (∃ i, e = .returned (.int .i64 i) ∧ decide (0 ≤ i) = l.any (fun h => !keptH h)) ∧ Low w.heap.size w w' := by
  go_enter Tryz.func120, Tryz.ntmps120
  go_wp2
  go_loopw [5, 8] (fun _ i wr => ∃ k : Nat, k ≤ l.length ∧ i = .int .i64 k ∧ Low w.heap.size w wr ∧ Hid (l.any (fun h => !keptH h) = (l.drop k).any (fun h => !keptH h))) (fun _ i _ => l.length - (intOf i).toNat)
  case atStart => exact ⟨0, by omega, rfl, Low.refl _ _, rfl⟩
  case round =>
    obtain ⟨k, hk, rfl, hlw, HA⟩ := hrel
    by_cases hlt : k < l.length
    · obtain ⟨ad, rfl, h0, h1⟩ := (hh.low hlw (Nat.le_refl _)).out k hlt
      have HD := Lib.hid (List.drop_eq_getElem_cons hlt)
      generalize l[k] = h at h0 h1 HD 
      obtain ⟨n, v⟩ := h
      simp only at h0 h1 
      have HC := Lib.hid (fun w => kept1_calls n v w)
      have HS := Lib.hid (show (l.drop k).any (fun h => !keptH h) = (!keptH (n, v) || (l.drop (k + 1)).any (fun h => !keptH h)) by rw [HD.out, List.any_cons])
      generalize keptH (n, v) = q at HC HS
      have hz := hlw.size
      cases q
      · go_wp2_with (first | (go_at_call 70; refine (HC.out _).mono ?_; rintro e w2 ⟨rfl, hl2⟩))
        go_ret
        refine ⟨⟨_, rfl, ?_⟩, hlw.trans (hl2.mono hz)⟩
        rw [HA.out, HS.out]
        simp
      · go_wp2_with (first | (go_at_call 70; refine (HC.out _).mono ?_; rintro e w2 ⟨rfl, hl2⟩))
        go_roundw
        case rel => exact ⟨k + 1, by omega, by go_num, hlw.trans (hl2.mono hz), by rw [Hid, HA.out, HS.out]; simp⟩
        case measure => simp [intOf]; omega
    · go_wp2
      go_ret
      refine ⟨⟨_, rfl, ?_⟩, hlw⟩
      rw [HA.out, List.drop_of_length_le (by omega)]
      rfl
set_option maxHeartbeats 8000000 in
set_option maxRecDepth 100000 in
theorem containsFunc70_calls (A : Option Addr) (l : List Hd) (c : Nat) (w : World) (hh : Hds w A l) (hlen : l.length ≤ 1048576) : Calls Tryz.prog 69 #[.slice A l.length c, .func (.func 70) #[] #[]] w fun e w' => e = .returned (.bool (l.any fun h => !keptH h)) ∧ Low w.heap.size w w' := by
  have HI := Lib.hid (indexFunc70_calls A l c w hh hlen)
  go_enter Tryz.func69, Tryz.ntmps69
  go_wp2_with (first | (go_at_call 120; refine HI.out.mono ?_; rintro e w2 ⟨⟨i, rfl, hi⟩, hl2⟩; have Hi := Lib.hid hi; clear hi))
  go_ret
  rw [← Hi.out]
  exact ⟨rfl, hl2⟩

/-- head.Check. -/
def checkH (l : List Hd) : Int := if 16 < l.length then 5 else if l.any (fun h => !mayH h) = true then 40 else 0
set_option maxHeartbeats 8000000 in
set_option maxRecDepth 100000 in
theorem headCheck_calls (A : Option Addr) (l : List Hd) (c : Nat) (w : World) (hh : Hds w A l) (hv : ∀ h ∈ l, h.2.length ≤ 1048576) (hlen : l.length ≤ 1048576) : Calls Tryz.prog 72 #[.slice A l.length c] w fun e w' => e = .returned (.int .i64 (checkH l)) ∧ Low w.heap.size w w' := by
  have HI := Lib.hid (containsFunc122_calls A l c w hh hv hlen)
  have HC := Lib.hid (show checkH l = if 16 < l.length then 5 else if l.any (fun h => !mayH h) = true then 40 else 0 from rfl)
  generalize l.any (fun h => !mayH h) = q at HI HC
  by_cases h16 : 16 < l.length
  · have d : decide ((16 : Int) < (l.length : Int)) = true := by simp; omega
    have HC2 := Lib.hid (HC.out.trans (if_pos h16))
    clear h16
    go_enter Tryz.func72, Tryz.ntmps72
    go_wp2
    go_ret
    rw [HC2.out]
    exact ⟨rfl, Low.refl _ _⟩
  · have d : decide ((16 : Int) < (l.length : Int)) = false := by simp; omega
    have HC2 := Lib.hid (HC.out.trans (if_neg h16))
    clear h16
    cases q
    all_goals
      go_enter Tryz.func72, Tryz.ntmps72
      go_wp2_with (first | (go_at_call 69; refine HI.out.mono ?_; rintro e w2 ⟨rfl, hl2⟩))
      go_ret
      rw [HC2.out]
      exact ⟨rfl, hl2⟩
end Go.Proofs.YtcognpibphpadaaGreatDoor
