/- The chunks of a body: the iterator of http.chunks. -/
import Derived.Test.YtcognpibphpadaaGreatDoorZRng
import Derived.Test.YtcognpibphpadaaGreatDoorZGet
set_option linter.unusedVariables false
set_option linter.unusedSimpArgs false
namespace Go.Proofs.YtcognpibphpadaaGreatDoor
open Go.RowKit Go.Shelf
attribute [local go_sem] Oper.semAt_some

/-- A piece of the body: where it lies, its row's capacity, its bytes. -/
abbrev Pc := (Option Addr × Nat) × B
def encP (x : Pc) : Array Value := #[.slice x.1.1 x.2.length x.1.2]
def cutA (A : Option Addr) (c k : Nat) : Option Addr := A.map fun a => subA a c k
/-- The pieces of a body. -/
def pcs (size : Nat) : Nat → Option Addr → Nat → B → List Pc
  | 0, _, _, _ => []
  | k + 1, A, c, b => if b.length = 0 then [((none, 0), [])] else ((A, c), b.take size) :: pcs size k (cutA A c (min size b.length)) (c - min size b.length) (b.drop size)
theorem pcs_bytes (size : Nat) : ∀ (k : Nat) (A : Option Addr) (c : Nat) (b : B), (pcs size k A c b).flatMap (fun x => chunkB x.2) = chF size k b
  | 0, _, _, _ => rfl
  | k + 1, A, c, b => by
    unfold pcs chF
    by_cases h : b.length = 0
    · rw [if_pos h, if_pos h]; simp
    · rw [if_neg h, if_neg h, List.flatMap_cons, pcs_bytes size k]
/-- What is known of the pieces. -/
def GoodP (w : World) (n₀ : Nat) (l : List Pc) : Prop := ∀ x ∈ l, Bts w x.1.1 x.2 ∧ (∀ ad, x.1.1 = some ad → ad.block < n₀) ∧ x.2.length ≤ 2000 ∧ (x.1.1 = none → x.1.2 = 0)
def GoodQ (w : World) (n₀ : Nat) (l : List Pc) : Prop := GoodP w n₀ l ∧ (l.flatMap fun x => chunkB x.2).length ≤ 20000
theorem slice_to1 (ad : Option Addr) (n c k : Nat) (hk : k ≤ c) (W : World) : (Instr.slice 23 (.slice ad n c) none (some (.int .i64 (k : Int))) none).run Tryz.prog W = .ok (.slice ad k c) W := by
  have he : Tryz.prog.elem 23 = 5 := by simp [Program.elem, Tryz.underlying23]
  rw [run_slice_h (P := Tryz.prog) W 23 ad n c (by rw [he]; exact Tryz.underlying23) .i64 (k : Int) (by omega) (by omega), he, size5]
  simp only [Result.andThen_ok, sliced, Int.toNat_natCast]
  have ha : (ad.map fun x => x.add (0 * 1)) = ad := by
    cases ad with
    | none => rfl
    | some a => obtain ⟨x, y, z⟩ := a; simp [Addr.add]
  rw [ha]
  simp
theorem pick_slice (A : Option Addr) (n c k : Nat) (h1 : k ≤ n) (h2 : n ≤ c) (W : World) : (Instr.slice 23 (.slice A n c) (some (.int .i64 (k : Int))) none none).run Tryz.prog W = .ok (.slice (cutA A c k) (n - k) (c - k)) W := by
  have he : Tryz.prog.elem 23 = 5 := by simp [Program.elem, Tryz.underlying23]
  rw [run_slice_l (P := Tryz.prog) W 23 A n c (by rw [he]; exact Tryz.underlying23) .i64 (k : Int) (by omega) (by omega), he, size5]
  simp only [Result.andThen_ok, sliced, Int.toNat_natCast, cutA, subA, Nat.mul_one]
  by_cases hc : c = k
  · subst hc
    cases A <;> simp
  · cases A <;> simp [hc]
theorem cut_bts {w : World} {A : Option Addr} {b : B} {c k : Nat} (h : Bts w A b) (hk : k ≤ b.length) (hc : b.length ≤ c) : Bts w (cutA A c k) (b.drop k) := by
  cases A with
  | none => exact ⟨fun j hj => by
      obtain ⟨ad, e, _⟩ := h.out 0 (by simp at hj; omega)
      cases e⟩
  | some ad =>
    have := h.sub c k (b.length - k) (by omega) hc
    rwa [List.take_of_length_le (by simp)] at this
theorem take_bts {w : World} {A : Option Addr} {b : B} (h : Bts w A b) (k : Nat) : Bts w A (b.take k) := ⟨fun j hj => by
  obtain ⟨ad, e, hc⟩ := h.out j (by simp at hj; omega)
  exact ⟨ad, e, by rw [hc, List.getElem_take]⟩⟩
/-- The length of the slice in a box. -/
def lenAt (W : World) (b : Nat) : Nat := match W.cell? ⟨b, 0, none⟩ with
  | some (.slice _ n _) => n
  | _ => 0
theorem chunks_calls (A : Option Addr) (n c : Nat) (size : Int) (w : World) : Calls Tryz.prog 76 #[.slice A n c, .int .i64 size] w fun e w' => e = .returned (.func (.func 127) #[] #[.pointer (some ⟨w.heap.size, 0, none⟩), .pointer (some ⟨w.heap.size + 1, 0, none⟩)]) ∧ w' = (w.alloc (.cells #[.slice A n c] 23)).alloc (.cells #[.int .i64 size] 3) := by
  have hmf : ∀ (fn : Fn) (first cap : Array Value) (w : World), (Instr.makeFunc fn first cap).run Tryz.prog w = .ok (.func fn first cap) w := fun _ _ _ _ => rfl
  go_enter Tryz.func76, Tryz.ntmps76
  go_wp2
  go_ret
  exact ⟨rfl, rfl⟩

set_option maxHeartbeats 8000000 in
set_option maxRecDepth 100000 in
theorem chunks_in (n : Nat) (hn : 2 ≤ n) (bB bS : Nat) (hne : bB ≠ bS) (A : Option Addr) (c size : Nat) (l : B) (w : World) (hs : 1 ≤ size) (hs2 : size ≤ 100000) (hl : l.length ≤ 2000) (hc : l.length ≤ c) (n₀ : Nat)
    (hB : Boxed w bB 23 (.slice A l.length c)) (hS : Boxed w bS 3 (.int .i64 (size : Int))) (hb : Bts w A l) (hA : ∀ ad, A = some ad → ad.block < n₀) :
    Yields n 127 #[.pointer (some ⟨bB, 0, none⟩), .pointer (some ⟨bS, 0, none⟩)] encP (fun k => k = bB ∨ k = bS) bB (GoodQ w n₀) (pcs size (l.length + 1) A c l) w := by
  have Hlen : ∀ pre rest : List Pc, pre ++ rest = pcs size (l.length + 1) A c l → (pre.flatMap fun x => chunkB x.2).length ≤ 20000 := fun pre rest e => by
    have h1 := pcs_bytes size (l.length + 1) A c l
    have h2 := chF_len size hs (l.length + 1) l hl
    rw [← h1, ← e, List.flatMap_append, List.length_append] at h2
    omega
  have HLn := Lib.hid Hlen
  clear Hlen
  intro lp J W hW hJ hY h0
  have hBW : Boxed W bB 23 (.slice A l.length c) := (hW.block bB hB.lt).trans hB
  have hSW : Boxed W bS 3 (.int .i64 (size : Int)) := (hW.block bS hS.lt).trans hS
  have HY := Lib.hid hY
  have HJ := Lib.hid hJ
  have H0 := Lib.hid h0
  clear hY hJ h0 hB hS hW
  refine callsIn_of_wp Tryz.func127 rfl trivial ?_ rfl
  simp only [Tryz.ntmps127, List.size_toArray, List.length_cons, List.length_nil, Nat.reduceAdd, Nat.reduceSub, Array.replicate_succ, Array.replicate_zero, List.push_toArray, List.append_toArray, List.nil_append, List.cons_append]
  gi_wp2
  gi_loopw [4] (fun _ wr => ∃ (A' : Option Addr) (c' k : Nat) (b : B) (pre : List Pc), Hid (J pre wr) ∧ Hid (Boxed wr bB 23 (.slice A' b.length c')) ∧ Hid (Boxed wr bS 3 (.int .i64 (size : Int))) ∧ b.length < k ∧ b.length ≤ c' ∧ b.length ≤ 2000 ∧ Hid (pre ++ pcs size k A' c' b = pcs size (l.length + 1) A c l) ∧ Hid (GoodP w n₀ pre) ∧ Hid (Bts w A' b) ∧ Hid (∀ ad, A' = some ad → ad.block < n₀)) (fun _ wr => lenAt wr bB)
  case atStart => exact ⟨A, c, l.length + 1, l, [], H0, Lib.hid hBW, Lib.hid hSW, by omega, hc, hl, Lib.hid rfl, Lib.hid (fun x hx => by cases hx), Lib.hid hb, Lib.hid hA⟩
  case round =>
    obtain ⟨A', c', k, b, pre, HJr, HBr, HSr, hk, hbc, hb2, HP, HG, Hb, HA⟩ := hrel
    have cB := HBr.out.cell
    have cS := HSr.out.cell
    have fB := HBr.out.frozen
    obtain ⟨k, rfl⟩ : ∃ k', k = k' + 1 := ⟨k - 1, by omega⟩
    by_cases h0 : b.length = 0
    · have hp := HP.out
      unfold pcs at hp
      rw [if_pos h0] at hp
      have HP2 := Lib.hid hp
      have hg : GoodP w n₀ (pre ++ [((none, 0), [])]) := fun x hx => by
        rcases List.mem_append.1 hx with hx | hx
        · exact HG.out x hx
        · obtain rfl := List.mem_singleton.1 hx
          exact ⟨⟨fun j hj => by cases hj⟩, (fun ad e => by cases e), by simp, fun _ => rfl⟩
      obtain ⟨fn, tmps, assign, body, hy, hR⟩ := HY.out pre ((none, 0), []) wr HJr.out ⟨hg, HLn.out _ [] (by rw [List.append_nil]; exact hp)⟩
      have hy2 : (Instr.yield lp #[.slice none 0 0]).run Tryz.prog wr = .ok (.round lp fn tmps assign body) wr := hy
      have HRR := Lib.hid hR
      clear hR hg hp hy
      gi_wp2
      refine ⟨fun _ => by omega, HRR.out.mono ?_⟩
      rintro e W3 ⟨rfl, hJ3, _⟩
      rw [HP2.out] at hJ3
      have HJ3 := Lib.hid hJ3
      clear hJ3
      gi_wp2
      go_end0
      exact ⟨⟨_, rfl⟩, HJ3.out⟩
    · have d1 : decide ((0 : Int) < (b.length : Int)) = true := by simp; omega
      obtain ⟨m, hm⟩ : ∃ m, m = min size b.length := ⟨_, rfl⟩
      have hmi : min (size : Int) (b.length : Int) = (m : Int) := by omega
      have hs1 : ∀ W : World, (Instr.slice 23 (.slice A' b.length c') none (some (.int .i64 (m : Int))) none).run Tryz.prog W = .ok (.slice A' m c') W := fun W => slice_to1 A' b.length c' m (by omega) W
      have hs2 : ∀ W : World, (Instr.slice 23 (.slice A' b.length c') (some (.int .i64 (m : Int))) none none).run Tryz.prog W = .ok (.slice (cutA A' c' m) (b.length - m) (c' - m)) W := fun W => pick_slice A' b.length c' m (by omega) (by omega) W
      have hp := HP.out
      unfold pcs at hp
      rw [if_neg h0, ← hm] at hp
      have htl : (b.take size).length = m := by rw [List.length_take, hm]
      have hdl : (b.drop size).length = b.length - m := by rw [List.length_drop]; omega
      have hx : GoodP w n₀ (pre ++ [((A', c'), b.take size)]) := fun x hx => by
        rcases List.mem_append.1 hx with hx | hx
        · exact HG.out x hx
        · obtain rfl := List.mem_singleton.1 hx
          exact ⟨take_bts Hb.out size, HA.out, (by show (b.take size).length ≤ 2000; omega), fun e => by
            obtain ⟨ad, e2, _⟩ := Hb.out.out 0 (by omega)
            exact absurd (e.symm.trans e2) (by simp)⟩
      obtain ⟨fn, tmps, assign, body, hy, hR⟩ := HY.out pre ((A', c'), b.take size) wr HJr.out ⟨hx, HLn.out _ (pcs size k (cutA A' c' m) (c' - m) (b.drop size)) (by rw [List.append_assoc]; exact hp)⟩
      have hy2 : (Instr.yield lp #[.slice A' m c']).run Tryz.prog wr = .ok (.round lp fn tmps assign body) wr := by
        have := hy
        simp only [encP, htl] at this
        exact this
      have HRR := Lib.hid hR
      have HX := Lib.hid hx
      have HP2 := Lib.hid (show (pre ++ [((A', c'), b.take size)]) ++ pcs size k (cutA A' c' m) (c' - m) (b.drop size) = pcs size (l.length + 1) A c l by rw [List.append_assoc]; exact hp)
      have Hb2 := Lib.hid (show Bts w (cutA A' c' m) (b.drop size) by
        have := cut_bts (k := m) Hb.out (by omega) hbc
        have e : b.drop size = b.drop m := by
          rcases Nat.le_total size b.length with h | h
          · rw [hm, Nat.min_eq_left h]
          · rw [hm, Nat.min_eq_right h, List.drop_of_length_le h, List.drop_of_length_le (Nat.le_refl _)]
        rw [e]; exact this)
      have HA2 := Lib.hid (show ∀ ad, cutA A' c' m = some ad → ad.block < n₀ from fun ad e => by
        cases A' with
        | none => cases e
        | some a0 =>
          cases e
          rw [subA_block]
          exact HA.out a0 rfl)
      have Hm := Lib.hid hm
      have Hdl := Lib.hid hdl
      have hmb : m ≤ b.length := by omega
      have hm1 : 1 ≤ m := by omega
      have hml := Lib.hid (show lenAt wr bB = b.length by unfold lenAt; rw [cB])
      clear hm hp htl hdl hx hy hR
      gi_wp2_with fail
      refine ⟨fun _ => by omega, HRR.out.mono ?_⟩
      rintro e W3 ⟨rfl, hJ3, hLie⟩
      have hB3 : Boxed W3 bB 23 (.slice A' b.length c') := (hLie bB (.inl rfl)).trans HBr.out
      have hS3 : Boxed W3 bS 3 (.int .i64 (size : Int)) := (hLie bS (.inr rfl)).trans HSr.out
      have c3 := hB3.cell
      have f3 := hB3.frozen
      have HB3 := Lib.hid hB3
      have HS3 := Lib.hid hS3
      have HJ3 := Lib.hid hJ3
      clear hJ3 hLie hB3 hS3 cB cS fB
      gi_wp2
      go_roundw
      case rel =>
        refine ⟨cutA A' c' m, c' - m, k, b.drop size, _, Lib.hid (HJ.out _ _ _ _ HJ3.out (grownBy_setCell' W3 bB _) (fun r e => by injection e with e; exact e.symm)), Lib.hid ?_, Lib.hid (HS3.out.other (fun e => hne e.symm) _), ?_, ?_, ?_, HP2, HX, Hb2, HA2⟩
        · rw [Hdl.out]; exact HB3.out.set _
        · have := Hdl.out; omega
        · have := Hdl.out; omega
        · have := Hdl.out; omega
      case measure =>
        rw [hml.out]
        unfold lenAt
        rw [(HB3.out.set _).cell]
        show b.length - m < b.length
        omega
end Go.Proofs.YtcognpibphpadaaGreatDoor
