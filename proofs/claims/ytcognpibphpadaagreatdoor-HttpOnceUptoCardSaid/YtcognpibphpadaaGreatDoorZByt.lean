/- http.Bytes of a message that may be. -/
import Derived.Test.YtcognpibphpadaaGreatDoorZWrit
set_option linter.unusedVariables false
set_option linter.unusedSimpArgs false
namespace Go.Proofs.YtcognpibphpadaaGreatDoor
open Go.RowKit

theorem ZRow.five {w : World} {R : Nat} {me pa : ByteArray} {st : Int} {hv bv : Value} (h : ZRow w R me pa st hv bv) :
    w.cell? ⟨R, 0, none⟩ = some (.string me) ∧ w.cell? ⟨R, 1, none⟩ = some (.string pa) ∧ w.cell? ⟨R, 2, none⟩ = some (.int .i64 st) ∧ w.cell? ⟨R, 3, none⟩ = some hv ∧ w.cell? ⟨R, 4, none⟩ = some bv :=
  ⟨h.cell 0, h.cell 1, h.cell 2, h.cell 3, h.cell 4⟩
theorem ZRow.lt0 {w : World} {R : Nat} {me pa : ByteArray} {st : Int} {hv bv : Value} (h : ZRow w R me pa st hv bv) : R < w.heap.size := (Array.getElem?_eq_some_iff.1 h.out).1
set_option maxHeartbeats 16000000 in
set_option maxRecDepth 100000 in
theorem bytes_calls (m : Msg) (hA bA : Option Addr) (hc bc : Nat) (w : World) (hg : Glob w) (ht : Tab10 w) (h0 : checkM m = 0)
    (hh : Hds w hA m.hs) (hHA : ∀ ad, hA = some ad → ad.block < w.heap.size) (hk : Bts w bA m.body) (hKA : ∀ ad, bA = some ad → ad.block < w.heap.size) :
    Calls Tryz.prog 29 #[.agg #[.string (bs m.me), .string (bs m.pa), .int .i64 m.st, .slice hA m.hs.length hc, .slice bA m.body.length bc]] w
      fun e w' => ∃ v, e = .returned (.tuple #[v, .int .i64 0]) ∧ BOwn w' w.heap.size v (bytesM m) ∧ Low w.heap.size w w' := by
  have hm := may_of h0
  have hmv : ∀ h ∈ m.hs, h.2.length ≤ 1048576 := fun h hh => by
    have h2 : mayB h.1 h.2 = true := hm.may h hh
    simp only [mayB, Bool.and_eq_true] at h2
    have := (value_facts h2.2).1
    omega
  have hpa : m.pa.length ≤ 1048576 := by
    rcases hm.fine with ⟨_, h, _⟩ | ⟨_, h, _⟩
    · have := (path_facts h).1; omega
    · rw [h]; simp
  have hb := hm.body
  have H30 := Lib.hid (fun (w1 : World) (hl : Low w.heap.size w w1) => check_calls m hA bA hc bc w1 (hh.far hl hHA) (fun ad e => Nat.lt_of_lt_of_le (hHA ad e) hl.size) hmv (by have := hm.n; omega) hpa (by omega))
  have H65 := Lib.hid (fun (w1 : World) (hl : Low w.heap.size w w1) => written_calls m (lenLine m.body.length) m.body hA bA bA hc bc bc w1 (hg.low hl hg.lt) (ht.low hl (Nat.lt_of_lt_of_le (by decide) hg.lt)) hm (hh.far hl hHA) (fun ad e => Nat.lt_of_lt_of_le (hHA ad e) hl.size) (hk.far hl hKA) (fun ad e => Nat.lt_of_lt_of_le (hKA ad e) hl.size) (by have := (lenLine_ok m.body.length hb).2.2.1; omega) (by omega))
  have H55 := Lib.hid (fun (w1 : World) (hl : Low w.heap.size w w1) => itoa_calls m.body.length (by omega) w1 (ht.low hl (Nat.lt_of_lt_of_le (by decide) hg.lt)))
  have hbm : bytesM m = writtenM m (lenLine m.body.length) m.body := rfl
  rw [hbm]
  rw [h0] at H30
  obtain ⟨me, pa, st, hs, body⟩ := m
  dsimp only at *
  have hE : (⟨#[67, 111, 110, 116, 101, 110, 116, 45, 76, 101, 110, 103, 116, 104, 58, 32]⟩ ++ bs (decB body.length) : ByteArray) = bs (lenLine body.length) := by
    apply ByteArray.ext
    simp [bs, ByteArray.data_append, lenLine, lenB]
  have z1 : ¬ 9223372036854775807 < 16 + (bs (decB body.length)).size := by
    have := (dec_noEnd body.length hb).2.1
    rw [bs_size]; omega
  have HE := Lib.hid hE
  generalize lenLine body.length = fr at *
  generalize writtenM ⟨me, pa, st, hs, body⟩ fr body = wM at *
  generalize decB body.length = dB at *
  generalize hn : body.length = n at *
  generalize hs.length = hn' at *
  clear hE hn hbm hmv hpa hm hh hHA hk hKA hg ht h0 hb
  have hl0 := (Low.refl w.heap.size w).alloc (Nat.le_refl _) (.cells #[.string (bs me), .string (bs pa), .int .i64 st, .slice hA hn' hc, .slice bA n bc] 29)
  have hr0 : ZRow (w.alloc (.cells #[.string (bs me), .string (bs pa), .int .i64 st, .slice hA hn' hc, .slice bA n bc] 29)) w.heap.size (bs me) (bs pa) st (.slice hA hn' hc) (.slice bA n bc) := ⟨heap_alloc_new w _⟩
  have HL0 := Lib.hid hl0
  have HR0 := Lib.hid hr0
  clear hl0 hr0
  go_enter Tryz.func29, Tryz.ntmps29
  go_wp2_with fail
  refine (H30.out _ HL0.out).mono ?_
  rintro e w1 ⟨rfl, hl1⟩
  have HL1 := Lib.hid (HL0.out.trans (hl1.mono HL0.out.size))
  have HR1 := Lib.hid (HR0.out.low hl1 HR0.out.lt0)
  clear hl1 HR0 HL0
  go_wp2_with fail
  have HLd := Lib.hid HL1.out.drew
  have HRd := Lib.hid (HR1.out.low (Low.refl _ w1).drew HR1.out.lt0)
  have H5 := Lib.hid HRd.out.five
  go_region_held3 (fun wx => wx.cell? ⟨w.heap.size, 0, none⟩ = some (.string (bs me)) ∧ wx.cell? ⟨w.heap.size, 1, none⟩ = some (.string (bs pa)) ∧ wx.cell? ⟨w.heap.size, 2, none⟩ = some (.int .i64 st) ∧ wx.cell? ⟨w.heap.size, 3, none⟩ = some (.slice hA hn' hc) ∧ wx.cell? ⟨w.heap.size, 4, none⟩ = some (.slice bA n bc))
    (first | with_reducible exact H5.out | with_reducible exact H52.out | with_reducible exact H53.out)
    (first | (go_at_call 55; with_reducible refine (H55.out _ HLd.out).mono ?_; rintro e w2 ⟨rfl, hl2⟩; have HR2 := Lib.hid (HRd.out.low hl2 HRd.out.lt0); have H52 := Lib.hid HR2.out.five; have HL2 := Lib.hid (HLd.out.trans (hl2.mono HLd.out.size)); clear hl2) | (go_at_call 65; rw [HE.out]; with_reducible refine (H65.out _ HL2.out).mono ?_; rintro e w3 ⟨v, rfl, ho, hl3⟩; have HR3 := Lib.hid (HR2.out.low hl3 HR2.out.lt0); have H53 := Lib.hid HR3.out.five; have HL3 := Lib.hid (HL2.out.trans (hl3.mono HL2.out.size)); have HO := Lib.hid (ho.weak0 HL2.out.size); clear ho hl3))
  go_wp2_with fail
  go_ret2
  exact ⟨v, rfl, HO.out, HL3.out⟩
end Go.Proofs.YtcognpibphpadaaGreatDoor
