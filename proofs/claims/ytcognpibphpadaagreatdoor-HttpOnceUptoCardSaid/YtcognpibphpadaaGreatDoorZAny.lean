/- strings.ContainsAny(s, "+-_") at a short s, whatever its bytes. -/
import Derived.Test.YtcognpibphpadaaGreatDoorZBase
import Derived.Test.YtcognpibphpadaaGreatDoorZShelf
import Derived.Laws.RangeAny
import Derived.Laws.Runes
import Derived.Lib.OthersKept
set_option linter.unusedVariables false
set_option linter.unusedSimpArgs false
namespace Go.Proofs.YtcognpibphpadaaGreatDoor
open Go.RowKit

def pmu : ByteArray := ⟨#[43, 45, 95]⟩

set_option maxHeartbeats 8000000 in
set_option maxRecDepth 100000 in
theorem indexRune_err (w : World) : Calls Tryz.prog 196 #[.string pmu, .int .i32 65533] w fun e w' => e = .returned (.int .i64 (-1)) ∧ Low w.heap.size w w' := by
  have n0 : ∀ ty, (Instr.next (.pointer (some ⟨w.heap.size, 0, none⟩)) true ty).run Tryz.prog (w.iter pmu 0) = .ok (.tuple #[.bool true, .int .i64 0, .int .i32 43]) (w.iter pmu 1) := fun ty => run_next_ascii (P := Tryz.prog) w pmu 0 ty (by decide) (by decide)
  have n1 : ∀ ty, (Instr.next (.pointer (some ⟨w.heap.size, 0, none⟩)) true ty).run Tryz.prog (w.iter pmu 1) = .ok (.tuple #[.bool true, .int .i64 1, .int .i32 45]) (w.iter pmu 2) := fun ty => run_next_ascii (P := Tryz.prog) w pmu 1 ty (by decide) (by decide)
  have n2 : ∀ ty, (Instr.next (.pointer (some ⟨w.heap.size, 0, none⟩)) true ty).run Tryz.prog (w.iter pmu 2) = .ok (.tuple #[.bool true, .int .i64 2, .int .i32 95]) (w.iter pmu 3) := fun ty => run_next_ascii (P := Tryz.prog) w pmu 2 ty (by decide) (by decide)
  have n3 := fun ty => run_next_end (P := Tryz.prog) w pmu 3 ty (by decide)
  go_enter Tryz.func196, Tryz.ntmps196
  go_wp2
  refine wp_loop_rounds 4 ?_
  rw [rounds_succ]; go_wp2
  rw [rounds_succ]; go_wp2
  rw [rounds_succ]; go_wp2
  rw [rounds_succ]; go_wp2
  go_ret
  exact ⟨rfl, ⟨(Below.refl _ _).alloc (Nat.le_refl _) _⟩⟩

set_option maxHeartbeats 8000000 in
set_option maxRecDepth 100000 in
theorem indexRune_bad (r : Int) (h0 : 128 ≤ r) (hv : Lib.validRune r = false) (w : World) : Calls Tryz.prog 196 #[.string pmu, .int .i32 r] w fun e w' => e = .returned (.int .i64 (-1)) ∧ Low w.heap.size w w' := by
  have hne : (r == 65533) = false := by
    rw [beq_eq_false_iff_ne]; rintro rfl
    revert hv; decide
  have d1 : decide (r < 128) = false := by simp; omega
  have Hv := Lib.hid hv
  clear hv
  go_enter Tryz.func196, Tryz.ntmps196
  go_wp2_with (first | (go_at_call 214; refine (Tryz.utf8_ValidRune _ _).mono ?_; rintro e w' ⟨rfl, hw⟩; rw [hw, Hv.out]))
  go_ret
  exact ⟨rfl, Low.refl _ _⟩

set_option maxHeartbeats 8000000 in
set_option maxRecDepth 100000 in
theorem indexRune_good (r : Int) (h0 : 128 ≤ r) (hne : (r == 65533) = false) (hv : Lib.validRune r = true) (w : World) : Calls Tryz.prog 196 #[.string pmu, .int .i32 r] w fun e w' => e = .returned (.int .i64 (-1)) ∧ Low w.heap.size w w' := by
  have d1 : decide (r < 128) = false := by simp; omega
  have hf := encode_facts r (by rw [validRune_eq]; simpa [validRune, Lib.validRune] using hv) h0
  have Hv := Lib.hid hv
  clear hv
  obtain ⟨rs, hrs⟩ : ∃ rs, Utf8.encode r = rs := ⟨_, rfl⟩
  have hcv : ∀ w : World, (convert 21 9 (.int .i32 r)).run Tryz.prog w = .ok (.string rs) w := fun w => by rw [run_convert_int_string w 21 9 .i32 r rfl Tryz.underlying9, hrs]
  rw [hrs] at hf
  clear hrs
  obtain ⟨hf1, hf2, hf3⟩ := hf
  go_enter Tryz.func196, Tryz.ntmps196
  go_wp2_with (first | (go_at_call 214; refine (Tryz.utf8_ValidRune _ _).mono ?_; rintro e w' ⟨rfl, hw⟩; rw [hw, Hv.out]))
  go_step3
  have hcase : rs.size = 2 ∨ rs.size = 3 ∨ rs.size = 4 := by omega
  have hpm : pmu.size = 3 := rfl
  have low_index : ∀ (l : B) (c : UInt8), (∀ b ∈ l, b.toNat < 128) → 128 ≤ c.toNat → Lib.indexByte l c = -1 := by
    intro l c hl hc
    have hge := Lib.indexByte_ge l c
    by_cases h0 : Lib.indexByte l c = -1
    · exact h0
    · exfalso
      obtain ⟨o, ho⟩ := Int.eq_ofNat_of_zero_le (show 0 ≤ Lib.indexByte l c by omega)
      have hs := (Lib.indexByte_some ho).1
      have := hl c (List.mem_of_getElem? hs)
      omega
  have LI := Lib.hid low_index
  clear low_index
  have hx : ∀ g : rs.size - 1 < rs.size, 128 ≤ (rs[rs.size - 1]'g).toNat := hf3
  rcases hcase with h | h | h
  · have p1 : ∀ W : World, (Instr.index 9 (.string pmu) (.int .i64 1)).run Tryz.prog W = .ok (.int .u8 45) W := fun _ => by kernel_rfl
    have s1 : ∀ W : World, (Instr.slice 9 (.string pmu) (some (.int .i64 2)) none none).run Tryz.prog W = .ok (.string (bs [95])) W := fun _ => by kernel_rfl
    have g1 : 1 < rs.size := by omega
    have hx2 : 128 ≤ (rs[1]'g1).toNat := by
      have e : rs.size - 1 = 1 := by omega
      have := hx (by omega)
      simpa only [e] using this
    clear hx hf3
    have hb : ((45 : Int) != ((rs[1]'g1).toNat : Int)) = true := by rw [bne_iff_ne]; omega
    have HL := Lib.hid (LI.out [95] (rs[1]'g1) (by simp) hx2)
    go_wp2
    refine wp_loop_rounds 1 ?_
    rw [rounds_succ]; go_wp2
    go_step3
    go_wp2
    go_quiet (fail)
    go_wp2
    go_quiet ((go_at_call 213; exact quiet_add_same (Tryz.strings_IndexByte _ _ _)))
    simp only [bs_data, Int.toNat_natCast, UInt8.ofNat_toNat, Nat.toUInt8_eq, HL.out]
    go_wp2
    simp only [Exit.noGoto_ret, Exit.inBlock, Exit.then]
    go_ret
    exact ⟨rfl, (Low.refl _ _).drewN _⟩
  · have p1 : ∀ W : World, (Instr.index 9 (.string pmu) (.int .i64 2)).run Tryz.prog W = .ok (.int .u8 95) W := fun _ => by kernel_rfl
    have s1 : ∀ W : World, (Instr.slice 9 (.string pmu) (some (.int .i64 3)) none none).run Tryz.prog W = .ok (.string (bs [])) W := fun _ => by kernel_rfl
    have g1 : 2 < rs.size := by omega
    have hx2 : 128 ≤ (rs[2]'g1).toNat := by
      have e : rs.size - 1 = 2 := by omega
      have := hx (by omega)
      simpa only [e] using this
    clear hx hf3
    have hb : ((95 : Int) != ((rs[2]'g1).toNat : Int)) = true := by rw [bne_iff_ne]; omega
    have HL := Lib.hid (LI.out [] (rs[2]'g1) (by simp) hx2)
    go_wp2
    refine wp_loop_rounds 1 ?_
    rw [rounds_succ]; go_wp2
    go_step3
    go_wp2
    go_quiet (fail)
    go_wp2
    go_quiet ((go_at_call 213; exact quiet_add_same (Tryz.strings_IndexByte _ _ _)))
    simp only [bs_data, Int.toNat_natCast, UInt8.ofNat_toNat, Nat.toUInt8_eq, HL.out]
    go_wp2
    simp only [Exit.noGoto_ret, Exit.inBlock, Exit.then]
    go_ret
    exact ⟨rfl, (Low.refl _ _).drewN _⟩
  · go_wp2
    refine wp_loop_rounds 1 ?_
    rw [rounds_succ]; go_wp2
    rw [Exit.noGoto_ret]
    go_ret
    exact ⟨rfl, Low.refl _ _⟩

/-- Whatever rune beyond ASCII: it is none of the three. -/
theorem indexRune_high (r : Int) (h0 : 128 ≤ r) (w : World) : Calls Tryz.prog 196 #[.string pmu, .int .i32 r] w fun e w' => e = .returned (.int .i64 (-1)) ∧ Low w.heap.size w w' := by
  by_cases hv : Lib.validRune r = true
  · by_cases he : r = 65533
    · subst he; exact indexRune_err w
    · exact indexRune_good r h0 (by rw [beq_eq_false_iff_ne]; exact he) hv w
  · exact indexRune_bad r h0 (by simpa using hv) w

/-- Does one of the three stand in it? -/
def signed (l : B) : Bool := l.any fun c => c == 43 || c == 45 || c == 95
theorem get_bang (s : ByteArray) (i : Nat) (h : i < s.size) : s.get! i = s[i]'h := by
  have := get_at s i h
  simpa using this
def contAt (s : ByteArray) (i : Nat) : Bool := decide (i < s.size) && (s.get! i).toNat / 64 == 2
theorem width_pure (b0 b1 b2 b3 : Nat) (c1 c2 c3 : Bool) (re : Nat) (v : Int → Bool) (x : Nat × Nat)
    (h : (if b0 < 0x80 then (b0, 1)
      else if (b0 / 32 == 6 && c1) = true then
        if (b0 % 32) * 64 + b1 % 64 ≥ 0x80 then ((b0 % 32) * 64 + b1 % 64, 2) else (re, 1)
      else if (b0 / 16 == 14 && c1 && c2) = true then
        if (decide ((b0 % 16) * 4096 + (b1 % 64) * 64 + b2 % 64 ≥ 0x800) && v ((b0 % 16) * 4096 + (b1 % 64) * 64 + b2 % 64 : Nat)) = true then ((b0 % 16) * 4096 + (b1 % 64) * 64 + b2 % 64, 3) else (re, 1)
      else if (b0 / 8 == 30 && c1 && c2 && c3) = true then
        if (decide ((b0 % 8) * 262144 + (b1 % 64) * 4096 + (b2 % 64) * 64 + b3 % 64 ≥ 0x10000) && v ((b0 % 8) * 262144 + (b1 % 64) * 4096 + (b2 % 64) * 64 + b3 % 64 : Nat)) = true then ((b0 % 8) * 262144 + (b1 % 64) * 4096 + (b2 % 64) * 64 + b3 % 64, 4) else (re, 1)
      else (re, 1)) = x) : x.2 = 1 ∨ (x.2 = 2 ∧ c1 = true) ∨ (x.2 = 3 ∧ c1 = true ∧ c2 = true) ∨ (x.2 = 4 ∧ c1 = true ∧ c2 = true ∧ c3 = true) := by
  subst h
  split
  · exact .inl rfl
  · split
    · rename_i g
      simp only [Bool.and_eq_true] at g
      split
      · exact .inr (.inl ⟨rfl, g.2⟩)
      · exact .inl rfl
    · split
      · rename_i g
        simp only [Bool.and_eq_true] at g
        split
        · exact .inr (.inr (.inl ⟨rfl, g.1.2, g.2⟩))
        · exact .inl rfl
      · split
        · rename_i g
          simp only [Bool.and_eq_true] at g
          split
          · exact .inr (.inr (.inr ⟨rfl, g.1.1.2, g.1.2, g.2⟩))
          · exact .inl rfl
        · exact .inl rfl
theorem decode_width (s : ByteArray) (pos : Nat) : (Utf8.decode s pos).2 = 1 ∨ ((Utf8.decode s pos).2 = 2 ∧ contAt s (pos + 1) = true) ∨ ((Utf8.decode s pos).2 = 3 ∧ contAt s (pos + 1) = true ∧ contAt s (pos + 2) = true) ∨ ((Utf8.decode s pos).2 = 4 ∧ contAt s (pos + 1) = true ∧ contAt s (pos + 2) = true ∧ contAt s (pos + 3) = true) :=
  width_pure (s.get! (pos + 0)).toNat (s.get! (pos + 1)).toNat (s.get! (pos + 2)).toNat (s.get! (pos + 3)).toNat (contAt s (pos + 1)) (contAt s (pos + 2)) (contAt s (pos + 3)) Utf8.runeError Utf8.valid _ rfl
theorem decode_span (s : ByteArray) (pos : Nat) (h : pos < s.size) (ha : 128 ≤ (s[pos]'h).toNat) : ∀ k, k < (Utf8.decode s pos).2 → ∃ hq : pos + k < s.size, 128 ≤ (s[pos + k]'hq).toNat := by
  have hc : ∀ k, contAt s (pos + k) = true → ∃ hq : pos + k < s.size, 128 ≤ (s[pos + k]'hq).toNat := by
    intro k hk
    simp only [contAt, Bool.and_eq_true, decide_eq_true_eq, beq_iff_eq] at hk
    refine ⟨hk.1, ?_⟩
    have e := get_bang s (pos + k) hk.1
    have := hk.2
    rw [e] at this
    omega
  have hz : ∃ hq : pos + 0 < s.size, 128 ≤ (s[pos + 0]'hq).toNat := ⟨h, ha⟩
  intro k hk
  rcases decode_width s pos with e | ⟨e, c1⟩ | ⟨e, c1, c2⟩ | ⟨e, c1, c2, c3⟩
  all_goals rw [e] at hk
  · match k, hk with
    | 0, _ => exact hz
  · match k, hk with
    | 0, _ => exact hz
    | 1, _ => exact hc 1 c1
  · match k, hk with
    | 0, _ => exact hz
    | 1, _ => exact hc 1 c1
    | 2, _ => exact hc 2 c2
  · match k, hk with
    | 0, _ => exact hz
    | 1, _ => exact hc 1 c1
    | 2, _ => exact hc 2 c2
    | 3, _ => exact hc 3 c3
theorem list_at (s : ByteArray) (i : Nat) (h : i < s.size) : s.data.toList[i]'(by rw [Array.length_toList]; exact h) = s[i]'h := by
  rw [Array.getElem_toList]; rfl
theorem signed_skip (s : ByteArray) (i : Nat) : ∀ n, (∀ k, k < n → ∃ hq : i + k < s.size, 128 ≤ (s[i + k]'hq).toNat) → signed (s.data.toList.drop i) = signed (s.data.toList.drop (i + n)) := by
  intro n
  induction n with
  | zero => intro _; rfl
  | succ n ih =>
    intro h
    rw [ih (fun k hk => h k (by omega))]
    obtain ⟨h1, h2⟩ := h n (by omega)
    have hl : i + n < s.data.toList.length := by rw [Array.length_toList]; exact h1
    rw [List.drop_eq_getElem_cons hl, list_at s (i + n) h1]
    have e : ∀ c : UInt8, 128 ≤ c.toNat → (c == 43 || c == 45 || c == 95) = false := by
      intro c hc
      have e1 : ¬ c = 43 := by rintro rfl; revert hc; decide
      have e2 : ¬ c = 45 := by rintro rfl; revert hc; decide
      have e3 : ¬ c = 95 := by rintro rfl; revert hc; decide
      simp [e1, e2, e3]
    simp only [signed, List.any_cons, e _ h2, Bool.false_or]
    rfl
theorem pmu_index (x : UInt8) : decide (0 ≤ Lib.indexByte pmu.data.toList x) = (x == 43 || x == 45 || x == 95) := by
  rw [← Lib.contains_iff_indexByte]
  show [43, 45, 95].contains x = _
  simp only [List.contains_cons, List.contains_nil, Bool.or_false, Bool.or_assoc]

set_option maxHeartbeats 8000000 in
set_option maxRecDepth 100000 in
theorem indexAny_calls (s : ByteArray) (h8 : s.size ≤ 8) (w : World) :
    Calls Tryz.prog 181 #[.string s, .string pmu] w fun e w' => (∃ i, e = .returned (.int .i64 i) ∧ decide (0 ≤ i) = signed s.data.toList) ∧ Low w.heap.size w w' := by
  have hpm : pmu.size = 3 := rfl
  have hemp : pmu.toList.isEmpty = false := by rw [ByteArray.toList_eq]; rfl
  have h8z : decide ((8 : Int) < (s.size : Int)) = false := decide_eq_false (by omega)
  go_enter Tryz.func181, Tryz.ntmps181
  go_wp2_with (first | (go_at_call 206; refine (Tryz.strings_shouldUseASCIISet _ _).mono ?_; rintro e w' ⟨rfl, hw⟩; rw [hw, h8z]))
  have HL := Lib.hid (show s.data.toList.length = s.size by rw [Array.length_toList]; rfl)
  go_loopg [9, 10] s.size (fun g _ _ wx => ∃ i : Nat, i ≤ s.size ∧ Hid (g = s.size - i) ∧ Hid (wx.heap[w.heap.size]? = some (.stringIter s i)) ∧ Low w.heap.size w wx ∧ Hid (signed s.data.toList = signed (s.data.toList.drop i)))
  case atStart => exact ⟨0, by omega, rfl, World.iter_heap w s 0, ⟨(Below.refl _ _).alloc (Nat.le_refl _) _⟩, rfl⟩
  case round =>
    obtain ⟨i, hi, HG, HK, hlo, HS⟩ := hrel
    have hbs : w.heap.size < wr.heap.size := (Array.getElem?_eq_some_iff.1 HK.out).1
    by_cases hlt : i < s.size
    · have hl : i < s.data.toList.length := by rw [HL.out]; exact hlt
      have HD := Lib.hid (List.drop_eq_getElem_cons hl)
      have HA := Lib.hid (list_at s i hlt)
      by_cases h128 : (s[i]'hlt).toNat < 128
      · have hnx := fun ty => Lib.run_next_ascii_at (P := Tryz.prog) wr w.heap.size s i ty HK.out hlt h128
        have hIK := Lib.hid (Lib.iterAt_heap wr w.heap.size s i (i + 1) HK.out)
        have hlo2 : Low w.heap.size w (wr.iterAt w.heap.size s (i + 1)) := ⟨Lib.below_iterAt hlo.out (Nat.le_refl _) s _⟩
        obtain ⟨x, hx⟩ : ∃ x : UInt8, s[i]'hlt = x := ⟨_, rfl⟩
        rw [hx] at hnx h128
        have hback : ((x.toNat : Int)).toNat.toUInt8 = x := by simp
        have hin := pmu_index x
        have Hx := Lib.hid hx
        clear hx
        cases hb : (x == 43 || x == 45 || x == 95)
        · rw [hb] at hin
          have hlt2 : ¬ ((0 : Int) ≤ Lib.indexByte pmu.data.toList x) := of_decide_eq_false hin
          have Hb := Lib.hid hb
          clear hin hb
          go_wp2_with (first | (go_at_call 196; refine (Tryz.strings_IndexRune_ascii _ _ _ (by omega) (by omega)).mono ?_; rintro e w' ⟨rfl, hw⟩; rw [hw, hback]))
          go_roundg (s.size - (i + 1))
          case measure => rw [HG.out]; omega
          case rel =>
            refine ⟨i + 1, by omega, rfl, hIK, hlo2, ?_⟩
            rw [Hid, HS.out, HD.out, HA.out, Hx.out]
            simp only [signed, List.any_cons, Hb.out, Bool.false_or]
        · rw [hb] at hin
          have hge : ((0 : Int) ≤ Lib.indexByte pmu.data.toList x) := of_decide_eq_true hin
          have Hb := Lib.hid hb
          clear hin hb
          go_wp2_with (first | (go_at_call 196; refine (Tryz.strings_IndexRune_ascii _ _ _ (by omega) (by omega)).mono ?_; rintro e w' ⟨rfl, hw⟩; rw [hw, hback]))
          go_ret
          refine ⟨⟨_, rfl, ?_⟩, hlo2⟩
          rw [HS.out, HD.out, HA.out, Hx.out]
          simp only [signed, List.any_cons, Hb.out, Bool.true_or]
          simp
      · have hnx := fun ty => Lib.run_next_any_at (P := Tryz.prog) wr w.heap.size s i ty HK.out hlt
        have hhi := decode_high s i hlt (by omega)
        have hsp := decode_span s i hlt (by omega)
        have HW := Lib.hid (signed_skip s i _ hsp)
        have hend := hsp ((Utf8.decode s i).2 - 1) (by omega)
        obtain ⟨hend, -⟩ := hend
        clear hsp
        obtain ⟨r, hr⟩ : ∃ r, (Utf8.decode s i).1 = r := ⟨_, rfl⟩
        obtain ⟨m, hm⟩ : ∃ m, (Utf8.decode s i).2 = m := ⟨_, rfl⟩
        rw [hr, hm] at hnx hhi
        rw [hm] at HW hend
        clear hr hm
        obtain ⟨hh1, hh2⟩ := hhi
        have hIK := Lib.hid (Lib.iterAt_heap wr w.heap.size s i (i + m) HK.out)
        have hlo2 : Low w.heap.size w (wr.iterAt w.heap.size s (i + m)) := ⟨Lib.below_iterAt hlo.out (Nat.le_refl _) s _⟩
        have hsz := Lib.hid (Lib.iterAt_size wr w.heap.size s (i + m))
        go_wp2_with (first | (go_at_call 196; refine (indexRune_high _ (by omega) _).mono ?_; rintro e w' ⟨rfl, hlw⟩))
        go_roundg (s.size - (i + m))
        case measure => rw [HG.out]; omega
        case rel =>
          refine ⟨i + m, by omega, rfl, ?_, hlo2.trans (hlw.mono (by rw [hsz.out]; omega)), ?_⟩
          · rw [Hid, hlw.out.block _ (by rw [hsz.out]; exact hbs)]; exact hIK.out
          · rw [Hid, HS.out, HW.out]
    · have hi' : i = s.size := by omega
      have HE := Lib.hid hi'
      have hnx := fun ty => Lib.run_next_end_at (P := Tryz.prog) wr w.heap.size s i ty HK.out hlt
      clear hi'
      go_wp2
      go_ret
      refine ⟨⟨_, rfl, ?_⟩, hlo⟩
      rw [HS.out, List.drop_of_length_le (by rw [HL.out, HE.out]; exact Nat.le_refl _)]
      rfl

/-- strings.ContainsAny(s, "+-_"), s of eight bytes at most. -/
theorem containsAny_calls (s : ByteArray) (h8 : s.size ≤ 8) (w : World) :
    Calls Tryz.prog 152 #[.string s, .string ⟨#[43, 45, 95]⟩] w fun e w' => e = .returned (.bool (signed s.data.toList)) ∧ Low w.heap.size w w' := by
  have HI := Lib.hid (indexAny_calls s h8)
  go_enter Tryz.func152, Tryz.ntmps152
  go_wp2_with (first | (go_at_call 181; refine (HI.out _).mono ?_; rintro e w' ⟨⟨i, rfl, hi⟩, hlw⟩; have Hi := Lib.hid hi; clear hi))
  go_ret
  exact ⟨by rw [← Hi.out]; rfl, hlw⟩
end Go.Proofs.YtcognpibphpadaaGreatDoor
