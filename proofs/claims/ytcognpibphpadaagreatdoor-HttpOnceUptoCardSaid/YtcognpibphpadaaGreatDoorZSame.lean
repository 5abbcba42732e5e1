/- http.Word, head.Bytes. -/
import Derived.Test.YtcognpibphpadaaGreatDoorZBuf
import Derived.Test.YtcognpibphpadaaGreatDoorZBack
import Derived.Test.YtcognpibphpadaaGreatDoorZEq
set_option linter.unusedVariables false
set_option linter.unusedSimpArgs false
namespace Go.Proofs.YtcognpibphpadaaGreatDoor
open Go.RowKit

set_option maxHeartbeats 4000000 in
set_option maxRecDepth 100000 in
theorem word_calls (n : Int) (w : World) : Calls Tryz.prog 39 #[.int .i64 n] w fun e w' => e = .returned (.string (bs (wordB n))) ∧ w' = w := by
  have HW := Lib.hid (show wordB n = if n = 200 then [79, 75] else if n = 400 then [66, 97, 100, 32, 82, 101, 113, 117, 101, 115, 116] else if n = 403 then [70, 111, 114, 98, 105, 100, 100, 101, 110] else if n = 404 then [78, 111, 116, 32, 70, 111, 117, 110, 100]
    else if n = 503 then [83, 101, 114, 118, 105, 99, 101, 32, 85, 110, 97, 118, 97, 105, 108, 97, 98, 108, 101] else if n = 504 then [71, 97, 116, 101, 119, 97, 121, 32, 84, 105, 109, 101, 111, 117, 116] else [79, 116, 104, 101, 114] from rfl)
  go_enter Tryz.func39, Tryz.ntmps39
  go_wp2
  all_goals
    go_ret
    refine ⟨?_, rfl⟩
    rw [HW.out]
    clear HW
    simp only [beq_iff_eq, beq_eq_false_iff_ne, ne_eq] at *
    simp [*]
    try rfl

/-- 'append(bytes, text...)'. -/
theorem wpList_str {w : World} {ops : Array Oper} {rest : List Oper} {o : Oper} {a : Act} {Q : Exit → Act → World → Prop} (b : Nat) (v : Value) (l : B) (s : ByteArray) (so xo : Operand)
    (hown : BOwn w b v l) (hw : Region.wanted o (yielded ops a.tmps) = true) (ho : o.op = .call { callee := .builtin .append, args := #[so, xo], argTypes := #[23, 9] }) (hs : a.eval so = v) (hxo : a.eval xo = .string s)
    (hl : l.length + s.size ≤ 1000000) (hb : b ≤ w.heap.size)
    (h' : ∀ v' w', BOwn w' b v' (l ++ s.data.toList) → w.grownBy w' v.ownBlock → wpList Tryz.prog ops Q rest (a.put o.dst v') w') :
    wpList Tryz.prog ops Q (o :: rest) a w := by
  refine BigFrame.wpList_want hw fun K hK => ?_
  obtain ⟨i, z, h1, h2, h3, h4, h5⟩ := info5'
  have hz : i.zero = some (.int .u8 0) := by
    have e : (Tryz.prog.info? 5).map (·.zero) = some (some (.int .u8 0)) := by kernel_rfl
    rw [h1] at e
    simpa using e
  obtain ⟨v', w', hr, hO, hg, _⟩ := Lib.run_append_own_string (P := Tryz.prog) w b 23 9 o.type 5 i Tryz.underlying23 Tryz.underlying9 h1 hz h3 h4 v l.length (bcs l) hown.out s (by simp only [maxLen]; omega) (by omega) hb
  unfold Oper.wp execOp
  simp only [ho, resolve, invoke, builtin, Sem.run_bind, Sem.run_pure, Result.andThen_ok, List.map_toArray, List.map_cons, List.map_nil, hs, hxo, hr]
  refine hK _ _ (h' v' w' ⟨?_⟩ hg)
  have e1 : (l ++ s.data.toList).length = l.length + s.size := by rw [List.length_append, Array.length_toList]; rfl
  rw [e1, bcs_append]
  exact hO
theorem low_of_grown {w wr w' : World} {b : Nat} {v : Value} {l : B} (hL : Low b w wr) (ho : BOwn wr b v l) (hb : b ≤ wr.heap.size) (hg : wr.grownBy w' v.ownBlock) : Low b w w' :=
  hL.trans ⟨⟨hg.os, hg.tape, hg.output, hg.size, fun j hj => hg.block j (by omega) (fun e => by have := (ho.out.lt j e.symm).1; omega)⟩⟩

set_option maxHeartbeats 8000000 in
set_option maxRecDepth 100000 in
theorem hbytes_calls (A : Option Addr) (l : List Hd) (c : Nat) (w : World) (hh : Hds w A l) (hA : ∀ ad, A = some ad → ad.block < w.heap.size) (hc : checkH l = 0) (hv : ∀ h ∈ l, mayH h = true) (h16 : l.length ≤ 16) :
    Calls Tryz.prog 117 #[.slice A l.length c] w fun e w' => ∃ v, e = .returned (.tuple #[v, .int .i64 0]) ∧ BOwn w' w.heap.size v (wLines (l.map hLine)) ∧ Low w.heap.size w w' := by
  have hlen : ∀ h ∈ l, h.1.length ≤ 30 ∧ h.2.length ≤ 200 := fun h hh => by
    have h1 := hv h hh
    obtain ⟨n, v⟩ := h
    have h2 : mayB n v = true := h1
    simp only [mayB, Bool.and_eq_true] at h2
    exact ⟨(fold_facts h2.1).2.1, (value_facts h2.2).1⟩
  have HK := Lib.hid (headCheck_calls A l c w hh (fun h hh => Nat.le_trans (hlen h hh).2 (by decide)) (by omega))
  rw [hc] at HK
  have hall : ∀ k, (wLines ((l.take k).map hLine)).length ≤ 4000 := fun k => by
    have := wl_le 232 ((l.take k).map hLine) (fun t ht => by
      obtain ⟨x, hx, rfl⟩ := List.mem_map.1 ht
      exact (may_line (hv x (List.mem_of_mem_take hx))).2.2.1)
    have h3 : ((l.take k).map hLine).length ≤ 16 := by rw [List.length_map, List.length_take]; omega
    have := Nat.mul_le_mul h3 (Nat.le_refl (232 + 2))
    omega
  have HA := Lib.hid hall
  have HH := Lib.hid hh
  have HN := Lib.hid hlen
  have HF := Lib.hid hA
  clear hall hh hlen hA hv hc
  go_enter Tryz.func117, Tryz.ntmps117
  go_wp2_with fail
  refine HK.out.mono ?_
  rintro e w1 ⟨rfl, hl1⟩
  have HL1 := Lib.hid hl1
  clear hl1
  go_wp2_with fail
  go_loopw [5, 15] (fun u i wr => ∃ (k : Nat) (v : Value), v = u ∧ i = .int .i64 k ∧ k ≤ l.length ∧ BOwn wr w.heap.size v (wLines ((l.take k).map hLine)) ∧ Low w.heap.size w wr) (fun _ i _ => l.length - (intOf i).toNat)
  case atStart => exact ⟨0, _, rfl, rfl, by omega, BOwn.nil _ _, HL1.out⟩
  case round =>
    obtain ⟨k, v, rfl, rfl, hk, hO, hL⟩ := hrel
    by_cases hlt : k < l.length
    · have hd : decide ((k : Int) < (l.length : Int)) = true := by simp; omega
      obtain ⟨ad, rfl, h0, h1⟩ := (HH.out.far hL HF.out).out k hlt
      obtain ⟨n1, n2⟩ := HN.out l[k] (List.getElem_mem hlt)
      have hst : wLines ((l.take (k + 1)).map hLine) = wLines ((l.take k).map hLine) ++ (l[k].1 ++ (58 :: 32 :: (l[k].2 ++ [13, 10]))) := by
        rw [← List.take_append_getElem hlt, List.map_append, wl_app]
        simp [wLines, hLine]
      have hq := HA.out k
      generalize l[k] = hd2 at h0 h1 n1 n2 hst
      obtain ⟨n, v2⟩ := hd2
      dsimp only at h0 h1 n1 n2 hst
      have HS := Lib.hid hst
      clear hst
      have z1 : ¬ 9223372036854775807 < (bs n).size + 2 := by rw [bs_size]; omega
      have z2 : ¬ 9223372036854775807 < (bs n).size + 2 + (bs v2).size := by rw [bs_size, bs_size]; omega
      have z3 : ¬ 9223372036854775807 < (bs n).size + 2 + (bs v2).size + 2 := by rw [bs_size, bs_size]; omega
      have hl2 := (Low.refl wr.heap.size wr).alloc (Nat.le_refl _) (.cells #[.string (bs n), .string (bs v2)] 33)
      have HO2 := Lib.hid (hO.low hl2 (Nat.le_refl _))
      have HL2 := Lib.hid (hL.alloc hL.size (.cells #[.string (bs n), .string (bs v2)] 33))
      have Hq := Lib.hid hq
      have e1 : (bs n ++ ⟨#[58, 32]⟩ ++ bs v2 ++ ⟨#[13, 10]⟩).data.toList = n ++ (58 :: 32 :: (v2 ++ [13, 10])) := by simp [bs, ByteArray.data_append]
      have e2 : (bs n ++ ⟨#[58, 32]⟩ ++ bs v2 ++ ⟨#[13, 10]⟩).size ≤ 300 := by
        have : (bs n ++ ⟨#[58, 32]⟩ ++ bs v2 ++ ⟨#[13, 10]⟩).size = (n ++ (58 :: 32 :: (v2 ++ [13, 10]))).length := by rw [← e1, Array.length_toList]; rfl
        rw [this]
        simp; omega
      have E1 := Lib.hid e1
      have E2 := Lib.hid e2
      clear e1 e2 hl2 hL hq hO
      go_wp2_with (at_builtin; refine wpList_str w.heap.size v (wLines ((l.take k).map hLine)) (bs n ++ ⟨#[58, 32]⟩ ++ bs v2 ++ ⟨#[13, 10]⟩) _ _ HO2.out rfl rfl rfl rfl (by have := E2.out; have := Hq.out; omega) HL2.out.size ?_; intro v' w' ho' hg'; have Ho := Lib.hid ho'; clear ho')
      refine ⟨⟨k + 1, _, rfl, by go_num, by omega, ?_, low_of_grown HL2.out HO2.out HL2.out.size hg'⟩, by simp [intOf]; omega⟩
      rw [HS.out, ← E1.out]
      exact Ho.out
    · have hd : decide ((k : Int) < (l.length : Int)) = false := by simp; omega
      have hke : k = l.length := by omega
      subst hke
      rw [List.take_length] at hO
      obtain ⟨A', cp, rfl, hcp, hB, hA'⟩ := hO.slice
      have HO := Lib.hid hO
      clear hO hB hA'
      go_wp2
      go_ret2
      exact ⟨_, rfl, HO.out, hL⟩
end Go.Proofs.YtcognpibphpadaaGreatDoor
