/- HttpAgain: what is read, written and read again is the same. -/
import Derived.Test.YtcognpibphpadaaGreatDoorZByt
import Derived.Test.YtcognpibphpadaaGreatDoorZErr
import Derived.Test.YtcognpibphpadaaGreatDoorZEx
set_option linter.unusedVariables false
set_option linter.unusedSimpArgs false
namespace Go.Proofs.YtcognpibphpadaaGreatDoor
open Go.RowKit

theorem slice_to0 (ad : Option Addr) (n c k : Nat) (hk : k ≤ c) (W : World) : (Instr.slice 23 (.slice ad n c) none (some (.int .i64 (k : Int))) none).run Tryz.prog W = .ok (.slice ad k c) W := by
  have he : Tryz.prog.elem 23 = 5 := by simp [Program.elem, Tryz.underlying23]
  rw [run_slice_h (P := Tryz.prog) W 23 ad n c (by rw [he]; exact Tryz.underlying23) .i64 (k : Int) (by omega) (by omega), he, size5]
  simp only [Result.andThen_ok, sliced, Int.toNat_natCast]
  have ha : (ad.map fun x => x.add (0 * 1)) = ad := by
    cases ad with
    | none => rfl
    | some a => obtain ⟨x, y, z⟩ := a; simp [Addr.add]
  rw [ha]
  simp
set_option maxHeartbeats 1000000 in
set_option maxRecDepth 100000 in
theorem again_calls (A : Option Addr) (l : B) (c : Nat) (w : World) (hl : Bts w A l) (hc : l.length ≤ c) (hA : ∀ ad, A = some ad → ad.block < w.heap.size) (hg : Glob w) (ht : Tab10 w) (hn : l.length ≤ 1048576) :
    Calls Tryz.prog 7 #[.slice A l.length c] w fun e w' => e = .returned (.bool true) ∧ Low w.heap.size w w' := by
  obtain ⟨k, hk⟩ : ∃ k, k = min l.length 9000 := ⟨_, rfl⟩
  have hsl := slice_to0 A l.length c k (by omega)
  have hkm : min (l.length : Int) 9000 = (k : Int) := by omega
  have hkc : k ≤ c := by omega
  have hbt : Bts w A (l.take k) := ⟨fun j hj => by
    obtain ⟨ad, e, hc⟩ := hl.out j (by simp at hj; omega)
    exact ⟨ad, e, by rw [hc, List.getElem_take]⟩⟩
  have hkl : (l.take k).length = k := by simp; omega
  have HP := Lib.hid (parse_calls A (l.take k) c w hbt (by omega) hA hg)
  have HX := Lib.hid (fun (w1 : World) (hl : Low w.heap.size w w1) => works_calls w1 (hg.low hl hg.lt))
  have HG := Lib.hid (fun (w1 : World) (hl : Low w.heap.size w w1) => hg.low hl hg.lt)
  have HT := Lib.hid (fun (w1 : World) (hl : Low w.heap.size w w1) => ht.low hl (Nat.lt_of_lt_of_le (by decide) hg.lt))
  rw [hkl] at HP
  cases hpf : parseF (l.take k) with
  | error cc =>
    have hc0 := parse_err hpf
    rw [hpf] at HP
    have q0 : (cc == 0) = false := by rw [beq_eq_false_iff_ne]; exact hc0
    generalize l.length = n at *
    clear hpf hkl hbt hA hg ht hl hk
    go_enter Tryz.func7, Tryz.ntmps7
    go_wp2_with fail
    refine HP.out.mono ?_
    rintro e w1 ⟨rfl, hl1⟩
    have hZ : ZRow (w1.alloc (.cells #[.string (bs []), .string (bs []), .int .i64 0, .slice none 0 0, .slice none 0 0] 29)) w1.heap.size (bs []) (bs []) 0 (.slice none 0 0) (.slice none 0 0) := ⟨heap_alloc_new w1 _⟩
    have z0 := hZ.cell 0
    have z2 := hZ.cell 2
    simp at z0 z2
    have he : ((bs []).toList == ([] : List UInt8)) = true := by rw [bs_list]; rfl
    have he' : (bs []).toList.isEmpty = true := by rw [bs_list]; rfl
    have HL := Lib.hid (hl1.alloc hl1.size (.cells #[.string (bs []), .string (bs []), .int .i64 0, .slice none 0 0, .slice none 0 0] 29))
    clear hl1 hZ
    go_wp2_with (first | (go_at_call 14; refine (HX.out _ HL.out).mono ?_; rintro e w2 ⟨rfl, hl2⟩))
    go_ret
    exact ⟨rfl, HL.out.trans (hl2.mono HL.out.size)⟩
  | ok m =>
    have hck := parse_ok_check hpf
    have hbk := parse_back hck
    rw [hpf] at HP
    have hpl := may_of hck
    have hmv : ∀ h ∈ m.hs, h.2.length ≤ 1048576 := fun h hh => by
      have h2 : mayB h.1 h.2 = true := hpl.may h hh
      simp only [mayB, Bool.and_eq_true] at h2
      have := (value_facts h2.2).1
      omega
    have hpa : m.pa.length ≤ 1048576 := by
      rcases hpl.fine with ⟨_, h, _⟩ | ⟨_, h, _⟩
      · have := (path_facts h).1; omega
      · rw [h]; simp
    have hb := hpl.body
    have h16 := hpl.n
    generalize l.length = n at *
    clear hpf hkl hbt hA hg ht hl hpl hk
    go_enter Tryz.func7, Tryz.ntmps7
    go_wp2_with fail
    refine HP.out.mono ?_
    rintro e w1 ⟨⟨hA, hc1, bA, bc, rfl, hn1, hn2, hH, hB, hHA, hBA⟩, hl1⟩
    have HL1 := Lib.hid hl1
    have HHm := Lib.hid (fun (w2 : World) (hl2 : Low w1.heap.size w1 w2) => hH.low hl2 (Nat.le_refl _))
    have HBm := Lib.hid (fun (w2 : World) (hl2 : Low w1.heap.size w1 w2) => hB.low hl2 (Nat.le_refl _))
    have HHA := Lib.hid (fun (w2 : World) (hl2 : Low w1.heap.size w1 w2) (ad : Addr) (h : hA = some ad) => Nat.lt_of_lt_of_le (hHA ad h).2 hl2.size)
    have HBA := Lib.hid (fun (w2 : World) (hl2 : Low w1.heap.size w1 w2) (ad : Addr) (h : bA = some ad) => Nat.lt_of_lt_of_le (hBA ad h).2 hl2.size)
    have hL2 := (Low.refl w1.heap.size w1).alloc (Nat.le_refl _) (.cells #[.string (bs m.me), .string (bs m.pa), .int .i64 m.st, .slice hA m.hs.length hc1, .slice bA m.body.length bc] 29)
    have hZ : ZRow (w1.alloc (.cells #[.string (bs m.me), .string (bs m.pa), .int .i64 m.st, .slice hA m.hs.length hc1, .slice bA m.body.length bc] 29)) w1.heap.size (bs m.me) (bs m.pa) m.st (.slice hA m.hs.length hc1) (.slice bA m.body.length bc) := ⟨heap_alloc_new w1 _⟩
    have HZ := Lib.hid hZ
    have HL2 := Lib.hid hL2
    have Hck := Lib.hid hck
    have Hbk := Lib.hid hbk
    have Hmv := Lib.hid hmv
    have Hpa := Lib.hid hpa
    have Hb := Lib.hid hb
    have H16 := Lib.hid h16
    clear hl1 hH hB hHA hBA hL2 hZ hck hbk hmv hpa hb h16 hn1 hn2 hn hsl hkm hkc hc HP
    go_wp2_with fail
    refine (bytes_calls m hA bA hc1 bc _ (HG.out _ (HL1.out.trans (HL2.out.mono HL1.out.size))) (HT.out _ (HL1.out.trans (HL2.out.mono HL1.out.size))) Hck.out (HHm.out _ HL2.out) (HHA.out _ HL2.out) (HBm.out _ HL2.out) (HBA.out _ HL2.out)).mono ?_
    rintro e w2 ⟨v, rfl, hO, hl2⟩
    obtain ⟨A2, c2, rfl, hc2, hB2, hA2⟩ := hO.slice
    have HL2' := Lib.hid (HL2.out.trans (hl2.mono HL2.out.size))
    have HLw2 := Lib.hid (HL1.out.trans (HL2'.out.mono HL1.out.size))
    have HZ2 := Lib.hid (HZ.out.low hl2 HZ.out.lt0)
    have HP2 := parse_calls A2 (bytesM m) c2 w2 hB2 hc2 (fun ad e => (hA2 ad e).2.1) (HG.out _ HLw2.out)
    rw [Hbk.out] at HP2
    have HP3 := Lib.hid HP2
    generalize (bytesM m).length = bn at *
    clear HP2 hB2 hA2 hO hl2 hc2 HL2 HZ
    go_wp2_with fail
    refine HP3.out.mono ?_
    rintro e w3 ⟨⟨hA3, hc3, bA3, bc3, rfl, hn1, hn2, hH3, hB3, hHA3, hBA3⟩, hl3⟩
    have HZ3 := Lib.hid (HZ2.out.low hl3 HZ2.out.lt0)
    have HL3 := Lib.hid (HL2'.out.trans (hl3.mono HL2'.out.size))
    have hl4 := (Low.refl w3.heap.size w3).alloc (Nat.le_refl _) (.cells #[.string (bs m.me), .string (bs m.pa), .int .i64 m.st, .slice hA3 m.hs.length hc3, .slice bA3 m.body.length bc3] 29)
    have HL4 := Lib.hid (HL3.out.trans (hl4.mono HL3.out.size))
    have HLw4 := Lib.hid (HL1.out.trans (HL4.out.mono HL1.out.size))
    have hZ4 := HZ3.out.low hl4 HZ3.out.lt0
    have hY4 : ZRow (w3.alloc (.cells #[.string (bs m.me), .string (bs m.pa), .int .i64 m.st, .slice hA3 m.hs.length hc3, .slice bA3 m.body.length bc3] 29)) w3.heap.size (bs m.me) (bs m.pa) m.st (.slice hA3 m.hs.length hc3) (.slice bA3 m.body.length bc3) := ⟨heap_alloc_new w3 _⟩
    have HZ4 := Lib.hid hZ4
    have HY4 := Lib.hid hY4
    have Hl4 := Lib.hid hl4
    have HH3 := Lib.hid hH3
    have HB3 := Lib.hid hB3
    have HHA3 := Lib.hid hHA3
    have HBA3 := Lib.hid hBA3
    have H30 := Lib.hid (check_calls m hA bA hc1 bc _ (HHm.out _ HL4.out) (HHA.out _ HL4.out) Hmv.out (by have := H16.out; omega) Hpa.out (by have := Hb.out; omega))
    rw [Hck.out] at H30
    have H30' := Lib.hid H30
    clear hl3 hl4 hZ4 hY4 hH3 hB3 hHA3 hBA3 hn1 hn2 HP3 HZ2 HZ3 H30
    obtain ⟨q0, q1, q2, q3, q4⟩ := HZ4.out.five
    go_wp2_with (first | (go_at_call 30; refine H30'.out.mono ?_; rintro e w5 ⟨rfl, hl5⟩; have hz5 := (HZ4.out.low hl5 HZ4.out.lt0).five; obtain ⟨t0, t1, t2, t3, t4⟩ := hz5; have hy5 := (HY4.out.low hl5 HY4.out.lt0).five; obtain ⟨u0, u1, u2, u3, u4⟩ := hy5; have HL5 := Lib.hid (HL4.out.trans (hl5.mono HL4.out.size)); have Hl5 := Lib.hid (Hl4.out.trans (hl5.mono Hl4.out.size)); clear hl5 q0 q1 q2 q3 q4) | (go_at_call 31; refine (same_calls m m hA bA hA3 bA3 hc1 bc hc3 bc3 _ (HHm.out _ HL5.out) (HH3.out.low Hl5.out (Nat.le_refl _)) (HBm.out _ HL5.out) (HB3.out.low Hl5.out (Nat.le_refl _)) (HHA.out _ HL5.out) (fun ad h => Nat.lt_of_lt_of_le (HHA3.out ad h).2 Hl5.out.size) (HBA.out _ HL5.out) (fun ad h => Nat.lt_of_lt_of_le (HBA3.out ad h).2 Hl5.out.size) (by have := H16.out; omega) (by have := H16.out; omega)).mono ?_; rw [same_refl]; rintro e w6 ⟨rfl, hl6⟩; have HL6 := Lib.hid (HL1.out.trans ((HL5.out.trans (hl6.mono HL5.out.size)).mono HL1.out.size)); clear hl6) | (go_at_call 14; refine (HX.out _ HL6.out).mono ?_; rintro e w7 ⟨rfl, hl7⟩))
    go_ret
    exact ⟨rfl, HL6.out.trans (hl7.mono HL6.out.size)⟩
end Go.Proofs.YtcognpibphpadaaGreatDoor
