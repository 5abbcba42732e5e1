/- head.Get: a range over the iterator of head.others. -/
import Derived.Test.YtcognpibphpadaaGreatDoorZHds
import Derived.RangeFuncNested
import Derived.RangeFuncBound
import Derived.RangeFuncCalls
import Derived.RangeFuncLeaves
import Derived.RangeFuncBox
import Derived.Shelf.Abstract
import Derived.Shelf.RegionOpen
import Derived.OwnWalkIn
import Derived.TacticsInMore
import Derived.LoopNIn
import Derived.LoopIn
import Derived.Laws.EntriesVeiled
set_option linter.unusedVariables false
set_option linter.unusedSimpArgs false
namespace Go.Proofs.YtcognpibphpadaaGreatDoor
open Go.RowKit Go.Shelf
attribute [local go_sem] Oper.semAt_some

/-- What a round keeps: the blocks below n₀ but for some. -/
structure KpS (n₀ : Nat) (S : Nat → Prop) (W W' : World) : Prop where
  size : W.heap.size ≤ W'.heap.size
  block : ∀ k, k < n₀ → ¬ S k → W'.heap[k]? = W.heap[k]?
theorem KpS.refl (n₀ : Nat) (S : Nat → Prop) (W : World) : KpS n₀ S W W := ⟨Nat.le_refl _, fun _ _ _ => rfl⟩
theorem KpS.trans {n₀ : Nat} {S : Nat → Prop} {A B C : World} (h : KpS n₀ S A B) (k : KpS n₀ S B C) : KpS n₀ S A C := ⟨Nat.le_trans h.size k.size, fun i hi hs => (k.block i hi hs).trans (h.block i hi hs)⟩
theorem KpS.low {n₀ : Nat} {S : Nat → Prop} {A B : World} {b : Nat} (h : Low b A B) (hb : n₀ ≤ b) : KpS n₀ S A B := ⟨h.size, fun i hi _ => h.out.block i (by omega)⟩
theorem KpS.cell {n₀ : Nat} {S : Nat → Prop} {A B : World} (h : KpS n₀ S A B) {p : Addr} (hp : p.block < n₀) (hs : ¬ S p.block) : B.cell? p = A.cell? p := World.cell?_of_block (w := A) (h.block p.block hp hs)
theorem KpS.refl_grown {n₀ : Nat} {S : Nat → Prop} {A B : World} (_h : KpS n₀ S A B) (w : World) (o : Obj) : w.grownBy (w.alloc o) none := World.grownBy_alloc w o none
theorem grownBy_low {w w1 : World} (h : Low w.heap.size w w1) : w.grownBy w1 none := ⟨h.out.os, h.out.tape, h.out.output, h.out.size, fun k hk _ => h.out.block k hk⟩
theorem KpS.put {n₀ : Nat} {S : Nat → Prop} (w : World) (hn : n₀ ≤ w.heap.size) (W : World) (l : Nat) (o o' : Obj) (hl : w.heap.size ≤ l) (_ho : W.heap[l]? = some o) (_hc : o.isCells = false) (_hk : o.isWalk = false) : KpS n₀ S W (W.putObj l o') := by
  refine ⟨?_, fun k hk _ => ?_⟩
  · simp [World.putObj]
  · have h := (grownBy_putObj' W l o').block
    by_cases h2 : k < W.heap.size
    · exact h k h2 (fun e => by injection e with e; omega)
    · rw [Array.getElem?_eq_none (by simpa [World.putObj] using h2), Array.getElem?_eq_none (by omega)]

theorem get1_calls (s nm : ByteArray) (bn : Nat) (w : World) (hc : w.cell? ⟨bn, 0, none⟩ = some (.string nm)) : Calls Tryz.prog 125 #[.string s, .pointer (some ⟨bn, 0, none⟩)] w fun e w' => e = .returned (.bool (!alike s.data.toList nm.data.toList)) ∧ Low w.heap.size w w' := by
  have HM := Lib.hid (alike_calls s nm)
  go_enter Tryz.func125, Tryz.ntmps125
  go_wp2_with (first | (go_at_call 121; refine (HM.out _).mono ?_; rintro e w2 ⟨rfl, hl2⟩))
  go_ret
  exact ⟨rfl, hl2⟩

theorem others_calls (A : Option Addr) (n c : Nat) (g : Nat) (q : Addr) (w : World) : Calls Tryz.prog 124 #[.slice A n c, .func (.func g) #[] #[.pointer (some q)]] w fun e w' => e = .returned (.func (.func 160) #[] #[.pointer (some ⟨w.heap.size, 0, none⟩), .pointer (some ⟨w.heap.size + 1, 0, none⟩)]) ∧ w' = (w.alloc (.cells #[.slice A n c] 27)).alloc (.cells #[.func (.func g) #[] #[.pointer (some q)]] 108) := by
  have hmf : ∀ (fn : Fn) (first cap : Array Value) (w : World), (Instr.makeFunc fn first cap).run Tryz.prog w = .ok (.func fn first cap) w := fun _ _ _ _ => rfl
  go_enter Tryz.func124, Tryz.ntmps124
  go_wp2
  go_ret
  exact ⟨rfl, rfl⟩

def encHd (h : Hd) : Array Value := #[.agg #[.string (bs h.1), .string (bs h.2)]]

set_option maxHeartbeats 8000000 in
set_option maxRecDepth 100000 in
theorem others1_in (n : Nat) (hn : 2 ≤ n) (lp b2 b3 bn n₀ : Nat) (S : Nat → Prop) (A : Option Addr) (c : Nat) (l : List Hd) (nm : B) (J Jx : List Hd → World → Prop) (hlen : l.length ≤ 1048576)
    (W : World) (hn0 : n₀ ≤ W.heap.size) (hJ : AbidesFrom W.heap.size J)
    (hY : ∀ pre x W1, J pre W1 → pre.length < l.length → YieldAt Fence.wide (n - 1) Tryz.prog lp (encHd x) W1 fun e W' =>
      (e = .returned (.bool true) ∧ J (pre ++ [x]) W' ∧ KpS n₀ S W1 W') ∨ (e = .returned (.bool false) ∧ Jx (pre ++ [x]) W'))
    (h2 : W.cell? ⟨b2, 0, none⟩ = some (.slice A l.length c)) (h3 : W.cell? ⟨b3, 0, none⟩ = some (.func (.func 125) #[] #[.pointer (some ⟨bn, 0, none⟩)])) (hb3 : b3 < n₀ ∧ ¬ S b3)
    (hbn : W.cell? ⟨bn, 0, none⟩ = some (.string (bs nm))) (hbn' : bn < n₀ ∧ ¬ S bn) (hh : Hds W A l) (hA : ∀ ad, A = some ad → ad.block < n₀ ∧ ¬ S ad.block) (h0 : J [] W) :
    CallsIn Fence.wide n Tryz.prog 160 #[.func (.yield lp) #[] #[], .pointer (some ⟨b2, 0, none⟩), .pointer (some ⟨b3, 0, none⟩)] W fun e W' => (∃ v, e = .returned v) ∧
      ((∃ xs, xs = l.filter (fun h => alike h.1 nm) ∧ J xs W') ∨ (∃ pre, pre <+: l.filter (fun h => alike h.1 nm) ∧ Jx pre W')) := by
  refine callsIn_of_wp Tryz.func160 rfl trivial ?_ rfl
  simp only [Tryz.ntmps160, List.size_toArray, List.length_cons, List.length_nil, Nat.reduceAdd, Nat.reduceSub, Array.replicate_succ, Array.replicate_zero, List.push_toArray, List.append_toArray, List.nil_append, List.cons_append]
  gi_wp2
  gi_loopw [8] (fun i wr => ∃ k : Nat, k ≤ l.length ∧ i = .int .i64 k ∧ J ((l.take k).filter (fun h => alike h.1 nm)) wr ∧ KpS n₀ S W wr) (fun i _ => l.length - (intOf i).toNat)
  case atStart => exact ⟨0, by omega, rfl, h0, KpS.refl _ _ _⟩
  case round =>
    obtain ⟨k, hk, rfl, hJs0, hkp⟩ := hrel
    have hJs := Lib.hid hJs0
    clear hJs0
    by_cases hlt : k < l.length
    · obtain ⟨ad, rfl, c0, c1⟩ := hh.out k hlt
      have hAa := hA ad rfl
      have d0 := (hkp.cell (p := ad.add (k * 2)) (by rw [add_block]; exact hAa.1) (by rw [add_block]; exact hAa.2)).trans c0
      have d1 := (hkp.cell (p := ⟨(ad.add (k * 2)).block, (ad.add (k * 2)).off + 1, none⟩) (by show (ad.add (k * 2)).block < n₀; rw [add_block]; exact hAa.1) (by show ¬ S (ad.add (k * 2)).block; rw [add_block]; exact hAa.2)).trans c1
      have d3 := (hkp.cell (p := ⟨b3, 0, none⟩) hb3.1 hb3.2).trans h3
      have dn := (hkp.cell (p := ⟨bn, 0, none⟩) hbn'.1 hbn'.2).trans hbn
      have hz := hkp.size
      have HT := Lib.hid (show (l.take (k + 1)) = l.take k ++ [l[k]] by rw [List.take_succ_eq_append_getElem hlt])
      generalize l[k] = h at c0 c1 d0 d1 HT
      obtain ⟨n', v⟩ := h
      simp only at d0 d1
      have dA : ∀ o, (wr.alloc o).cell? ⟨b3, 0, none⟩ = some (.func (.func 125) #[] #[.pointer (some ⟨bn, 0, none⟩)]) := fun o => (World.cell?_alloc_past _ _ _ (by show b3 < wr.heap.size; omega)).trans d3
      have dN : ∀ o, (wr.alloc o).cell? ⟨bn, 0, none⟩ = some (.string (bs nm)) := fun o => (World.cell?_alloc_past _ _ _ (by show bn < wr.heap.size; omega)).trans dn
      have HB : HBlk (wr.alloc (.cells #[.string (bs n'), .string (bs v)] 33)) wr.heap.size (bs n') (bs v) := ⟨heap_alloc_new wr _⟩
      have HF : ((l.take (k + 1)).filter fun h => alike h.1 nm) = (l.take k).filter (fun h => alike h.1 nm) ++ (if alike n' nm = true then [(n', v)] else []) := by
        rw [HT.out, List.filter_append]
        congr 1
        simp only [List.filter_cons, List.filter_nil]
      have HF0 := HF
      clear HF
      have HF := Lib.hid HF0
      clear HF0
      have HG := Lib.hid (fun w h => get1_calls (bs n') (bs nm) bn w h)
      simp only [bs_data] at HG
      generalize alike n' nm = q at HG HF
      have hJ1 := Lib.hid (hJ _ _ _ none hJs.out (hkp.refl_grown wr (.cells #[.string (bs n'), .string (bs v)] 33)) (by simp))
      clear c0 c1 dn d3
      cases q
      · gi_wp2_with fail
        refine ⟨trivial, fun _ => by omega, ?_⟩
        refine (callsIn_wide.2 (HG.out _ (dN _))).mono ?_
        rintro e w1 ⟨rfl, hl1⟩
        have hJ2 := Lib.hid (hJ _ _ _ none hJ1.out (grownBy_low hl1) (by simp))
        have hz1 := hl1.size
        simp only [World.size_alloc] at hz1
        have hk1 : KpS n₀ S W w1 := (hkp.trans (KpS.low ((Low.refl wr.heap.size wr).alloc (Nat.le_refl _) _) (by omega))).trans (KpS.low hl1 (by simp; omega))
        gi_wp2
        refine ⟨fun _ h => (by cases h), ?_⟩
        gi_wp2
        go_roundw
        case rel => exact ⟨k + 1, by omega, by go_num, by rw [HF.out]; simpa using hJ2.out, hk1⟩
        case measure => simp [intOf]; omega
      · gi_wp2_with fail
        refine ⟨trivial, fun _ => by omega, ?_⟩
        refine (callsIn_wide.2 (HG.out _ (dN _))).mono ?_
        rintro e w1 ⟨rfl, hl1⟩
        have hJ2 := hJ _ _ _ none hJ1.out (grownBy_low hl1) (by simp)
        have hz1 := hl1.size
        simp only [World.size_alloc] at hz1
        have hk1 : KpS n₀ S W w1 := (hkp.trans (KpS.low ((Low.refl wr.heap.size wr).alloc (Nat.le_refl _) _) (by omega))).trans (KpS.low hl1 (by simp; omega))
        have hB1 := HB.low hl1 (by simp)
        have e0 := hB1.c0
        have e1 := hB1.c1
        have hlf : ((l.take k).filter fun h => alike h.1 nm).length < l.length := by
          have := List.length_filter_le (fun h : Hd => alike h.1 nm) (l.take k)
          rw [List.length_take] at this
          omega
        obtain ⟨fn, tmps, assign, body, hy, hR⟩ := hY _ (n', v) w1 hJ2 hlf
        dsimp only [encHd] at hy
        have hJ2 := Lib.hid hJ2
        have HRR := Lib.hid hR
        clear hR hlf
        gi_wp2
        refine ⟨fun _ => by omega, HRR.out.mono ?_⟩
        rintro e W3 (⟨rfl, hJ3, hk3⟩ | ⟨rfl, hJx3⟩)
        · have hJ3 := Lib.hid hJ3
          have hk4 := hk1.trans hk3
          gi_wp2
          go_roundw
          case rel => exact ⟨k + 1, by omega, by go_num, by rw [HF.out]; simpa using hJ3.out, hk4⟩
          case measure => simp [intOf]; omega
        · have hJx3 := Lib.hid hJx3
          gi_wp2
          refine bodyPost_ret (results_none rfl _ _ _) rfl ?_
          refine ⟨⟨_, rfl⟩, .inr ⟨_, ?_, hJx3.out⟩⟩
          have hpre : ((l.take (k + 1)).filter fun h => alike h.1 nm) <+: l.filter (fun h => alike h.1 nm) := (List.take_prefix _ _).filter _
          rw [HF.out] at hpre
          simpa using hpre
    · have hk' : k = l.length := by omega
      have HE := Lib.hid (show l.take k = l by rw [hk', List.take_length])
      clear hk'
      gi_wp2
      go_end0
      exact ⟨⟨_, rfl⟩, .inl ⟨_, by rw [HE.out], hJs.out⟩⟩
end Go.Proofs.YtcognpibphpadaaGreatDoor
