/- The law's seeds: Bring, CopyBytes, clean, made. -/
import Derived.Test.YtcognpibphpadaaGreatDoorZEx
set_option linter.unusedVariables false
set_option linter.unusedSimpArgs false
namespace Go.Proofs.YtcognpibphpadaaGreatDoor
open Go.RowKit

theorem bring_calls (n k : Int) (w : World) (hk : 0 < k) (hk2 : k ≤ 1000000) : Calls Tryz.prog 12 #[.int .i64 n, .int .i64 k] w fun e w' => e = .returned (.int .i64 (n % k)) ∧ w' = w := by
  have h0 : ¬ k = 0 := by omega
  have h1 := Int.tmod_lt_of_pos n hk
  have h2 : -k < Int.tmod n k := by
    rcases Int.lt_or_le n 0 with h | h
    · have := Int.neg_tmod (-n) k
      rw [Int.neg_neg] at this
      have h3 := Int.tmod_lt_of_pos (-n) hk
      omega
    · have := Int.tmod_nonneg k h; omega
  have hw : IntKind.i64.wrap (Int.tmod n k) = Int.tmod n k := by go_unwrap
  have hm : n % k = if Int.tmod n k < 0 then Int.tmod n k + k else Int.tmod n k := by
    have e : n % k = Int.tmod n k % k := by
      conv => lhs; rw [← Int.mul_tdiv_add_tmod n k]
      rw [Int.add_comm, Int.add_mul_emod_self_left]
    rw [e]
    split
    · next h =>
      rw [← Int.add_emod_right, Int.emod_eq_of_lt (by omega) (by omega)]
    · next h => exact Int.emod_eq_of_lt (by omega) h1
  go_enter Tryz.func12, Tryz.ntmps12
  go_wp2
  · next h =>
    go_ret
    rw [hm, if_pos h]
    exact ⟨rfl, rfl⟩
  · next h =>
    go_ret
    rw [hm, if_neg (by omega)]
    exact ⟨rfl, rfl⟩

theorem wpList_bytes {w : World} {ops : Array Oper} {rest : List Oper} {o : Oper} {a : Act} {Q : Exit → Act → World → Prop} (b : Nat) (v : Value) (l x : B) (ad : Addr) (c : Nat) (s xo : Operand)
    (hown : BOwn w b v l) (hx : Bts w (some ad) x)
    (hw : Region.wanted o (yielded ops a.tmps) = true) (ho : o.op = .call { callee := .builtin .append, args := #[s, xo], argTypes := #[23, 23] }) (hs : a.eval s = v) (hxo : a.eval xo = .slice (some ad) x.length c)
    (hl : l.length + x.length ≤ 1000000) (hb : b ≤ w.heap.size)
    (h' : ∀ A' cap w', BOwn w' b (.slice A' (l.length + x.length) cap) (l ++ x) → w.grownBy w' v.ownBlock → ((Value.slice A' (l.length + x.length) cap).ownBlock = v.ownBlock ∨ (Value.slice A' (l.length + x.length) cap).ownBlock = some w.heap.size) → wpList Tryz.prog ops Q rest (a.put o.dst (.slice A' (l.length + x.length) cap)) w') :
    wpList Tryz.prog ops Q (o :: rest) a w := by
  refine BigFrame.wpList_want hw fun K hK => ?_
  obtain ⟨A', cap, w', hr, h1, h2, h3⟩ := run_bytes o.type b v l x ad c hown hx hl hb
  unfold Oper.wp execOp
  simp only [ho, resolve, invoke, builtin, Sem.run_bind, Sem.run_pure, Result.andThen_ok, List.map_toArray, List.map_cons, List.map_nil, hs, hxo, hr]
  exact hK _ _ (h' A' cap w' h1 h2 h3)

set_option maxHeartbeats 8000000 in
set_option maxRecDepth 100000 in
theorem copy_calls (A : Option Addr) (l : B) (c : Nat) (w : World) (hl : Bts w A l) (hlen : l.length ≤ 1000000) :
    Calls Tryz.prog 33 #[.slice A l.length c] w fun e w' => ∃ v, e = .returned v ∧ BOwn w' w.heap.size v l ∧ Low w.heap.size w w' := by
  cases A with
  | none =>
    have : l = [] := by
      cases l with
      | nil => rfl
      | cons x t => obtain ⟨ad, e, _⟩ := hl.out 0 (by simp); cases e
    subst this
    go_enter Tryz.func33, Tryz.ntmps33
    go_wp2
    go_ret
    exact ⟨_, rfl, BOwn.nil _ _, Low.refl _ _⟩
  | some ad =>
    go_enter Tryz.func33, Tryz.ntmps33
    go_wp2_with (first | (at_builtin; refine wpList_bytes w.heap.size (.slice none 0 0) [] l ad c (.tmp 4) (.tmp 5) (BOwn.nil _ _) hl (by rfl) rfl (by simp [Act.eval, Act.put]) (by simp [Act.eval, Act.put]) (by simpa using hlen) (Nat.le_refl _) ?_; intro A' cap w' ho hg hat))
    go_ret
    simp only [List.length_nil, Nat.zero_add, List.nil_append] at ho
    exact ⟨_, rfl, ho, ⟨⟨hg.os, hg.tape, hg.output, hg.size, fun k hk => hg.block k hk (fun e => by cases e)⟩⟩⟩

def okC (p : Bool) (c : UInt8) : Bool := decide (32 < c.toNat) && (decide (c.toNat ≤ 126) && (!p || c != 35))
def cleanF (most : Nat) (p : Bool) : B → B → B
  | out, [] => out
  | out, c :: t => if out.length < most then (if okC p c = true then cleanF most p (out ++ [c]) t else cleanF most p out t) else out
theorem cleanF_full (most : Nat) (p : Bool) (out l : B) (h : ¬ out.length < most) : cleanF most p out l = out := by
  cases l with
  | nil => rfl
  | cons c t => rw [cleanF, if_neg h]
set_option maxHeartbeats 8000000 in
set_option maxRecDepth 100000 in
theorem clean_calls (s : ByteArray) (most : Nat) (p : Bool) (w : World) (hm : most ≤ 1000) (hs : s.size ≤ 1048576) :
    Calls Tryz.prog 46 #[.string s, .int .i64 most, .bool p] w fun e w' => e = .returned (.string (bs (cleanF most p [] s.data.toList))) ∧ Low w.heap.size w w' := by
  have HSL := Lib.hid (show s.data.toList.length = s.size by rw [Array.length_toList]; rfl)
  go_enter Tryz.func46, Tryz.ntmps46
  go_wp2
  go_loopw [7, 8] (fun v i wr => ∃ (k : Nat) (out : B), k ≤ s.size ∧ i = .int .i64 k ∧ out.length ≤ 1000 ∧ BOwn wr w.heap.size v out ∧ Low w.heap.size w wr ∧ Hid (cleanF most p [] s.data.toList = cleanF most p out (s.data.toList.drop k))) (fun _ i _ => s.size - (intOf i).toNat)
  case atStart => exact ⟨0, [], by omega, rfl, by simp, BOwn.nil _ _, Low.refl _ _, rfl⟩
  case round =>
    obtain ⟨k, out, hk, rfl, ho, hO, hL, HC⟩ := hrel
    obtain ⟨A, cp, rfl, hcp, hB, hA⟩ := hO.slice
    have hcv := hB.conv cp
    by_cases hlt : k < s.size
    · have hl : k < s.data.toList.length := by rw [HSL.out]; exact hlt
      have hd1 : decide ((k : Int) < (s.size : Int)) = true := by simp; omega
      by_cases hfull : out.length < most
      · have hd2 : decide ((out.length : Int) < (most : Int)) = true := by simp; omega
        have hx : s.data.toList[k] = s[k]'hlt := by rw [list_at s k hlt]
        have hst : cleanF most p out (s.data.toList.drop k) = if okC p (s[k]'hlt) = true then cleanF most p (out ++ [s[k]'hlt]) (s.data.toList.drop (k + 1)) else cleanF most p out (s.data.toList.drop (k + 1)) := by
          rw [List.drop_eq_getElem_cons hl, hx, cleanF, if_pos hfull]
        obtain ⟨x, hxx⟩ : ∃ x : UInt8, s[k]'hlt = x := ⟨_, rfl⟩
        rw [hxx] at hst
        by_cases h1 : 32 < x.toNat
        · have g1 : decide ((32 : Int) < (x.toNat : Int)) = true := by simp; omega
          by_cases h2 : x.toNat ≤ 126
          · have g2 : decide ((x.toNat : Int) ≤ (126 : Int)) = true := by simp; omega
            by_cases h3 : (!p || x != 35) = true
            · have hok : okC p x = true := by simp [okC, h1, h2]; simpa using h3
              rw [if_pos hok] at hst
              have HZ := Lib.hid (HC.out.trans hst)
              clear hst HC
              have hl1 := (Low.refl wr.heap.size wr).alloc (Nat.le_refl _) (.cells #[.int .u8 (x.toNat : Int)] 5)
              have hO1 := Lib.hid (hO.low hl1 (Nat.le_refl _))
              have hB1 : Hid (Bts (wr.alloc (.cells #[.int .u8 (x.toNat : Int)] 5)) (some ⟨wr.heap.size, 0, none⟩) [x]) := Lib.hid ⟨fun j hj => ⟨_, rfl, by
                rw [add0, cell_of_row _ _ _ _ _ _ (heap_alloc_new wr _)]
                match j, hj with
                | 0, _ => rfl⟩⟩
              have hL1 := hL.alloc hL.size (.cells #[.int .u8 (x.toNat : Int)] 5)
              have hzw := hL.size
              have hbw : w.heap.size ≤ (wr.alloc (.cells #[.int .u8 (x.toNat : Int)] 5)).heap.size := hL1.size
              clear hl1 hcv hB
              have g3 : ((x.toNat : Int) != 35) = (x != 35) := by
                by_cases e : x = 35
                · subst e; rfl
                · have e2 := u8_bne (b := 35) e
                  rw [show ((35 : UInt8).toNat : Int) = 35 from rfl] at e2
                  rw [e2]; simp [e]
              have HEnd : ∀ (A' : Option Addr) (cap : Nat) (w' : World), BOwn w' w.heap.size (.slice A' (out.length + [x].length) cap) (out ++ [x]) → (wr.alloc (.cells #[.int .u8 (x.toNat : Int)] 5)).grownBy w' (Value.slice A out.length cp).ownBlock →
                  (∃ (k' : Nat) (out' : B), k' ≤ s.size ∧ Value.int .i64 ((k : Int) + 1) = .int .i64 k' ∧ out'.length ≤ 1000 ∧ BOwn w' w.heap.size (.slice A' (out.length + 1) cap) out' ∧ Low w.heap.size w w' ∧ Hid (cleanF most p [] s.data.toList = cleanF most p out' (s.data.toList.drop k'))) := by
                intro A' cap w' ho' hg'
                refine ⟨k + 1, out ++ [x], by omega, by simp, by simp; omega, ho', hL1.trans ⟨⟨hg'.os, hg'.tape, hg'.output, hg'.size, fun j hj => hg'.block j (by have := hbw; omega) (fun e => ?_)⟩⟩, HZ⟩
                have := (hO.out.lt j e.symm).1
                omega
              have HE := Lib.hid HEnd
              clear HEnd
              cases p
              · go_wp2_with (first | (at_builtin; refine wpList_bytes w.heap.size (.slice A out.length cp) out [x] ⟨wr.heap.size, 0, none⟩ 1 (.tmp 41) (.tmp 45) hO1.out hB1.out (by rfl) rfl (by simp [Act.eval, Act.put]) (by simp [Act.eval, Act.put]) (by simp; omega) hbw ?_; intro A' cap w' ho' hg' hat'))
                exact ⟨HE.out A' cap w' ho' hg', by simp [intOf]; omega⟩
              · have g4 : ((x.toNat : Int) != 35) = true := by rw [g3]; simpa using h3
                have g5 : ¬ x.toNat = 35 := by intro e; rw [e] at g4; exact absurd g4 (by decide)
                have g6 : ¬ (x.toNat : Int) = 35 := by omega
                clear g3
                go_wp2_with (first | (at_builtin; refine wpList_bytes w.heap.size (.slice A out.length cp) out [x] ⟨wr.heap.size, 0, none⟩ 1 (.tmp 41) (.tmp 45) hO1.out hB1.out (by rfl) rfl (by simp [Act.eval, Act.put]) (by simp [Act.eval, Act.put]) (by simp; omega) hbw ?_; intro A' cap w' ho' hg' hat'))
                exact ⟨HE.out A' cap w' ho' hg', by simp [intOf]; omega⟩
            · have hok : okC p x = false := by simp only [okC]; rw [Bool.eq_false_iff.2 h3]; simp
              rw [if_neg (by simp [hok])] at hst
              have HZ := Lib.hid (HC.out.trans hst)
              clear hst HC
              cases p
              · simp at h3
              · have g3 : ((x.toNat : Int) != 35) = false := by
                  have : x = 35 := by simpa using h3
                  subst this; rfl
                go_wp2
                refine ⟨⟨k + 1, out, by omega, by go_num, ho, hO, hL, HZ⟩, by simp [intOf]; omega⟩
          · have g2 : decide ((x.toNat : Int) ≤ (126 : Int)) = false := by simp; omega
            have hok : okC p x = false := by simp [okC, h2]
            rw [if_neg (by simp [hok])] at hst
            have HZ := Lib.hid (HC.out.trans hst)
            clear hst HC
            go_wp2
            refine ⟨⟨k + 1, out, by omega, by go_num, ho, hO, hL, HZ⟩, by simp [intOf]; omega⟩
        · have g1 : decide ((32 : Int) < (x.toNat : Int)) = false := by simp; omega
          have hok : okC p x = false := by simp [okC, h1]
          rw [if_neg (by simp [hok])] at hst
          have HZ := Lib.hid (HC.out.trans hst)
          clear hst HC
          go_wp2
          refine ⟨⟨k + 1, out, by omega, by go_num, ho, hO, hL, HZ⟩, by simp [intOf]; omega⟩
      · have hd2 : decide ((out.length : Int) < (most : Int)) = false := by simp; omega
        have HZ := Lib.hid (show cleanF most p [] s.data.toList = out by rw [HC.out, cleanF_full most p out _ hfull])
        go_wp2
        go_ret
        rw [HZ.out]
        exact ⟨rfl, hL⟩
    · have hd1 : decide ((k : Int) < (s.size : Int)) = false := by simp; omega
      have HZ := Lib.hid (show cleanF most p [] s.data.toList = out by rw [HC.out, List.drop_of_length_le (by rw [HSL.out]; omega)]; rfl)
      go_wp2
      go_ret
      rw [HZ.out]
      exact ⟨rfl, hL⟩
end Go.Proofs.YtcognpibphpadaaGreatDoor
