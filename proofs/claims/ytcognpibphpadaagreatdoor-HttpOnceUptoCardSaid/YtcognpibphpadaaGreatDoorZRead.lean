/- The reader's small methods: fail, ends, line. -/
import Derived.Test.YtcognpibphpadaaGreatDoorZBase
import Derived.Maps.AppendAt
import Derived.Handy
import Derived.Laws.IdiomStrings
set_option linter.unusedVariables false
set_option linter.unusedSimpArgs false
namespace Go.Proofs.YtcognpibphpadaaGreatDoor
open Go.RowKit

/-- Behind a method: the reader's block is in a new state; only it and what is new has turned. -/
structure RTo (w w' : World) (g : Nat) (s' : RS) : Prop where
  blk : RBlk w' g s'
  grown : w.grownBy w' (some g)

theorem RTo.refl {w : World} {g : Nat} {s : RS} (h : RBlk w g s) : RTo w w g s := ⟨h, World.grownBy.refl w _⟩
theorem RTo.trans {w w1 w2 : World} {g : Nat} {s1 s2 : RS} (h : RTo w w1 g s1) (k : RTo w1 w2 g s2) : RTo w w2 g s2 := ⟨k.blk, h.grown.trans k.grown⟩
theorem RTo.set {w w1 : World} {g : Nat} {s1 s2 : RS} (h : RTo w w1 g s1) (k : Nat) (v : Value) (hs : s2.cells = s1.cells.setIfInBounds k v) : RTo w (w1.setCell ⟨g, k, none⟩ v) g s2 := by
  refine ⟨⟨?_⟩, ⟨h.grown.os, h.grown.tape, h.grown.output, by simpa [World.setCell] using h.grown.size, fun i hi hne => ?_⟩⟩
  · have := h.blk.out
    simp only [World.setCell, Array.getElem?_modify, this, hs]
    simp
  · exact (Below.heap_setCell w1 ⟨g, k, none⟩ v i (fun e => hne (by rw [e]))).trans (h.grown.block i hi hne)
theorem RTo.drewN {w w1 : World} {g : Nat} {s1 : RS} (h : RTo w w1 g s1) (n : Nat) : RTo w (w1.drewN n) g s1 := ⟨⟨h.blk.out⟩, ⟨h.grown.os, h.grown.tape, h.grown.output, h.grown.size, h.grown.block⟩⟩
theorem RTo.drew {w w1 : World} {g : Nat} {s1 : RS} (h : RTo w w1 g s1) : RTo w w1.drew g s1 := h.drewN 1
theorem RTo.alloc {w w1 : World} {g : Nat} {s1 : RS} (h : RTo w w1 g s1) (o : Obj) : RTo w (w1.alloc o) g s1 :=
  ⟨⟨(Below.heap_alloc w1 o g h.blk.lt).trans h.blk.out⟩, ⟨h.grown.os, h.grown.tape, h.grown.output, Nat.le_trans h.grown.size (by simp), fun i hi hne => (Below.heap_alloc w1 o i (Nat.lt_of_lt_of_le hi h.grown.size)).trans (h.grown.block i hi hne)⟩⟩
theorem RBlk.drewN {w : World} {g : Nat} {s : RS} (h : RBlk w g s) (n : Nat) : RBlk (w.drewN n) g s := ⟨h.out⟩
theorem RTo.low {w w1 : World} {g b : Nat} {s1 : RS} (h : RTo w w1 g s1) (hb : b ≤ g) (hg : g < w.heap.size) : Low b w w1 :=
  ⟨⟨h.grown.os, h.grown.tape, h.grown.output, h.grown.size, fun k hk => h.grown.block k (by omega) (fun e => by injection e with e; omega)⟩⟩

theorem fail_calls (w : World) (g : Nat) (s : RS) (c : Int) (h : RBlk w g s) (h0 : s.e = 0) :
    Calls Tryz.prog 107 #[.pointer (some ⟨g, 0, none⟩), .int .i64 c] w fun e w' => e = .returned (.bool false) ∧ RTo w w' g { s with e := c } := by
  have c2 : w.cell? ⟨g, 2, none⟩ = some (.int .i64 0) := by rw [h.cell 2 (by omega)]; simp [RS.cells, h0]
  have f2 := h.free 2
  have H := Lib.hid h
  clear h h0
  go_enter Tryz.func107, Tryz.ntmps107
  go_wp2
  go_ret
  exact ⟨rfl, (RTo.refl H.out).set 2 _ (by simp [RS.cells])⟩

/-- What 'ends' and 'line' come to, on the bytes and a place. -/
def endsAt (l : B) (at_ : Nat) : Except Int Nat :=
  if h : at_ < l.length then
    if l[at_] = 13 then
      if h : at_ + 1 < l.length then
        if l[at_ + 1] = 10 then .ok (at_ + 2) else .error 4
      else .error 3
    else .error 4
  else .error 3

/-- A method's bool: true in the new state, or false with the error laid. -/
def Told (w w' : World) (g : Nat) (s : RS) (e : Ending) : Except Int RS → Prop
  | .ok s' => e = .returned (.bool true) ∧ RTo w w' g s'
  | .error c => e = .returned (.bool false) ∧ ∃ s', RTo w w' g s' ∧ s'.e = c

theorem end_at0 (w : World) : (Instr.index 119 (.agg #[.int .u8 13, .int .u8 10]) (.int .i64 0)).run Tryz.prog w = .ok (.int .u8 13) w := by kernel_rfl
theorem end_at1 (w : World) : (Instr.index 119 (.agg #[.int .u8 13, .int .u8 10]) (.int .i64 1)).run Tryz.prog w = .ok (.int .u8 10) w := by kernel_rfl

def endB : Nat → UInt8
  | 0 => 13
  | _ => 10
theorem endsAt_lt {l : B} {a k : Nat} (hk : k < 2) (hh : ∀ j, j < k → ∃ h : a + j < l.length, l[a + j] = endB j) (h : a + k < l.length) (hne : l[a + k] ≠ endB k) : endsAt l a = .error 4 := by
  match k, hk with
  | 0, _ => simp only [Nat.add_zero, endB] at h hne; simp [endsAt, h, hne]
  | 1, _ =>
    obtain ⟨h1, h2⟩ := hh 0 (by omega)
    simp only [Nat.add_zero, endB] at h1 h2 hne
    simp [endsAt, h1, h2, h, hne]
theorem endsAt_end {l : B} {a k : Nat} (hk : k < 2) (hh : ∀ j, j < k → ∃ h : a + j < l.length, l[a + j] = endB j) (h : ¬ a + k < l.length) : endsAt l a = .error 3 := by
  match k, hk with
  | 0, _ => simp only [Nat.add_zero] at h; simp [endsAt, h]
  | 1, _ =>
    obtain ⟨h1, h2⟩ := hh 0 (by omega)
    simp only [Nat.add_zero, endB] at h1 h2
    simp [endsAt, h1, h2, h]
theorem endsAt_ok {l : B} {a : Nat} (hh : ∀ j, j < 2 → ∃ h : a + j < l.length, l[a + j] = endB j) : endsAt l a = .ok (a + 2) := by
  obtain ⟨h1, h2⟩ := hh 0 (by omega)
  obtain ⟨h3, h4⟩ := hh 1 (by omega)
  simp only [Nat.add_zero, endB] at h1 h2 h3 h4
  simp [endsAt, h1, h2, h3, h4]
theorem end_at (k : Nat) (hk : k < 2) (w : World) : (Instr.index 119 (.agg #[.int .u8 13, .int .u8 10]) (.int .i64 (k : Int))).run Tryz.prog w = .ok (.int .u8 ((endB k).toNat : Int)) w := by
  match k, hk with
  | 0, _ => exact end_at0 w
  | 1, _ => exact end_at1 w

set_option maxRecDepth 100000 in
theorem ends_calls (w : World) (g : Nat) (s : RS) (l : B) (h : RBlk w g s) (h0 : s.e = 0) (hn : s.n = l.length) (hl : Bts w s.A l) (hA : ∀ ad, s.A = some ad → ad.block < g) (hlen : l.length ≤ 8192) (hat : s.at_ ≤ l.length)
    (e0 : w.cell? ⟨0, 0, none⟩ = some (.int .u8 13)) (e1 : w.cell? ⟨0, 1, none⟩ = some (.int .u8 10)) :
    Calls Tryz.prog 114 #[.pointer (some ⟨g, 0, none⟩)] w fun e w' => Told w w' g s e ((endsAt l s.at_).map fun a => { s with at_ := a }) := by
  have H := Lib.hid h
  have HA := Lib.hid hA
  obtain ⟨A, n, c, at_, e, me, pa, st, hv, bv, rv, size⟩ := s
  simp only at h0 hn hl hat
  subst h0 hn
  clear h hA
  go_enter Tryz.func114, Tryz.ntmps114
  go_wp2
  go_loopw [6] (fun i wr => ∃ k : Nat, k ≤ 2 ∧ i = .int .i64 k ∧ RTo w wr g ⟨A, l.length, c, at_ + k, 0, me, pa, st, hv, bv, rv, size⟩ ∧ Hid (∀ j, j < k → ∃ h : at_ + j < l.length, l[at_ + j] = endB j)) (fun i _ => 2 - (intOf i).toNat)
  case atStart => exact ⟨0, by omega, rfl, RTo.refl H.out, fun j hj => by omega⟩
  case round =>
    obtain ⟨k, hk, rfl, hR, HH⟩ := hrel
    have hlw := hR.low (b := g) (Nat.le_refl _) H.out.lt
    have c0 := hR.blk.cell 0 (by omega)
    have c1 := hR.blk.cell 1 (by omega)
    have f1 := hR.blk.free 1
    simp [RS.cells] at c0 c1
    by_cases hk2 : k < 2
    · have i0 := end_at k hk2
      have dk : decide ((k : Int) < 2) = true := by simp; omega
      by_cases h1 : at_ + k < l.length
      · obtain ⟨ad, rfl, hc1⟩ := hl.out (at_ + k) h1
        have d1 : decide ((l.length : Int) ≤ (at_ : Int) + (k : Int)) = false := by simp; omega
        have hc2 := (hlw.cell (p := ad.add (at_ + k)) (by rw [add_block]; exact HA.out ad rfl)).trans hc1
        by_cases h2 : l[at_ + k] = endB k
        · rw [h2] at hc2
          go_wp2
          go_quiet (fail)
          go_wp2
          go_quiet (fail)
          go_wp2
          go_roundw
          case rel => exact ⟨k + 1, by omega, by go_num, ((hR.drewN _).set 1 _ (by simp [RS.cells]; omega)), fun j hj => by
            by_cases hjk : j = k
            · subst hjk; exact ⟨h1, h2⟩
            · exact HH.out j (by omega)⟩
          case measure => simp [intOf]; omega
        · have HZ := Lib.hid (endsAt_lt hk2 HH.out h1 h2)
          have hne : ((l[at_ + k].toNat : Int) == ((endB k).toNat : Int)) = false := by
            rw [beq_eq_false_iff_ne]; intro e; exact h2 (UInt8.toNat_inj.1 (by omega))
          have hne' : ((l[at_ + k].toNat : Int) != ((endB k).toNat : Int)) = true := by simp [bne, hne]
          clear h2
          generalize (l[at_ + k].toNat : Int) = x at hc2 hne hne' hc1
          go_wp2
          go_quiet (fail)
          go_wp2
          go_quiet (fail)
          go_wp2_with (go_at_call 107; refine (fail_calls _ g _ _ (hR.blk.drewN _) rfl).mono ?_; rintro e w' ⟨rfl, hb⟩)
          go_ret
          rw [HZ.out]
          exact ⟨rfl, _, (hR.drewN _).trans hb, rfl⟩
      · have HZ := Lib.hid (endsAt_end hk2 HH.out h1)
        have d1 : decide ((l.length : Int) ≤ (at_ : Int) + (k : Int)) = true := by simp; omega
        clear h1
        go_wp2
        go_quiet (fail)
        go_wp2_with (go_at_call 107; refine (fail_calls _ g _ _ (hR.blk.drewN _) rfl).mono ?_; rintro e w' ⟨rfl, hb⟩)
        go_ret
        rw [HZ.out]
        exact ⟨rfl, _, (hR.drewN _).trans hb, rfl⟩
    · have hk3 : k = 2 := by omega
      subst hk3
      have HZ := Lib.hid (endsAt_ok HH.out)
      clear HH
      go_wp2
      go_ret
      rw [HZ.out]
      exact ⟨rfl, hR⟩

def scan : Nat → B → Except Int Nat
  | _, [] => .error 3
  | i, c :: t => if c = 10 then .error 4 else if c = 13 then .ok i else if 300 ≤ i then .error 4 else scan (i + 1) t
def lineAt (l : B) (a : Nat) : Except Int (B × Nat) :=
  match scan 0 (l.drop a) with
  | .error c => .error c
  | .ok k => match endsAt l (a + k) with
    | .error c => .error c
    | .ok x => .ok ((l.drop a).take k, x)

theorem lineAt_cr {l : B} {a k : Nat} (h : scan 0 (l.drop a) = .ok k) : lineAt l a = match endsAt l (a + k) with | .error c => .error c | .ok x => .ok ((l.drop a).take k, x) := by unfold lineAt; rw [h]
theorem lineAt_err {l : B} {a : Nat} {c : Int} (h : scan 0 (l.drop a) = .error c) : lineAt l a = .error c := by unfold lineAt; rw [h]
theorem u8_beq {a b : UInt8} (h : a ≠ b) : ((a.toNat : Int) == (b.toNat : Int)) = false := by
  rw [beq_eq_false_iff_ne]; intro e; exact h (UInt8.toNat_inj.1 (by omega))
theorem u8_bne {a b : UInt8} (h : a ≠ b) : ((a.toNat : Int) != (b.toNat : Int)) = true := by simp [bne, u8_beq h]

/-- A method's text and bool. -/
def ToldS (w w' : World) (g : Nat) (s : RS) (e : Ending) : Except Int (B × Nat) → Prop
  | .ok (t, a) => e = .returned (.tuple #[.string (bs t), .bool true]) ∧ RTo w w' g { s with at_ := a }
  | .error c => (∃ x, e = .returned (.tuple #[.string x, .bool false])) ∧ ∃ s', RTo w w' g s' ∧ s'.e = c

set_option maxRecDepth 100000 in
theorem line_calls (w : World) (g : Nat) (s : RS) (l : B) (h : RBlk w g s) (h0 : s.e = 0) (hn : s.n = l.length) (hl : Bts w s.A l) (hA : ∀ ad, s.A = some ad → ad.block < g) (hlen : l.length ≤ 8192) (hc : s.n ≤ s.c) (hat : s.at_ ≤ l.length)
    (e0 : w.cell? ⟨0, 0, none⟩ = some (.int .u8 13)) (e1 : w.cell? ⟨0, 1, none⟩ = some (.int .u8 10)) (hg : 0 < g) :
    Calls Tryz.prog 102 #[.pointer (some ⟨g, 0, none⟩)] w fun e w' => ToldS w w' g s e (lineAt l s.at_) := by
  have H := Lib.hid h
  have HA := Lib.hid hA
  have hlw0 := Low.refl g w
  have c1 := h.cell 1 (by omega)
  obtain ⟨A, n, c, at_, e, me, pa, st, hv, bv, rv, size⟩ := s
  simp only at h0 hn hl hat hc
  simp [RS.cells] at c1
  subst h0 hn
  clear h hA
  go_enter Tryz.func102, Tryz.ntmps102
  go_wp2
  go_loopg [5] (l.length - at_) (fun gk _ wr => ∃ k : Nat, gk = l.length - (at_ + k) ∧ at_ + k ≤ l.length ∧ RTo w wr g ⟨A, l.length, c, at_ + k, 0, me, pa, st, hv, bv, rv, size⟩ ∧ Hid (scan 0 (l.drop at_) = scan k (l.drop (at_ + k))))
  case atStart => exact ⟨0, by omega, by omega, RTo.refl H.out, rfl⟩
  case round =>
    obtain ⟨k, hgk, hk, hR, HS⟩ := hrel
    have hgk := Lib.hid hgk
    have hlw := hR.low (b := g) (Nat.le_refl _) H.out.lt
    have c0 := hR.blk.cell 0 (by omega)
    have c1 := hR.blk.cell 1 (by omega)
    have f1 := hR.blk.free 1
    simp [RS.cells] at c0 c1
    by_cases h1 : at_ + k < l.length
    · obtain ⟨ad, rfl, hc1⟩ := hl.out (at_ + k) h1
      have hc2 := (hlw.cell (p := ad.add (at_ + k)) (by rw [add_block]; exact HA.out ad rfl)).trans hc1
      have d1 : decide ((at_ : Int) + (k : Int) < (l.length : Int)) = true := by simp; omega
      have HB := Lib.hid (List.drop_eq_getElem_cons h1)
      by_cases h2 : l[at_ + k] = 10
      · have HZ := Lib.hid (lineAt_err (l := l) (a := at_) (c := 4) (by rw [HS.out, HB.out, h2]; rfl))
        rw [h2] at hc2
        clear h2 HB
        go_wp2
        go_quiet (fail)
        go_wp2
        go_quiet (fail)
        go_wp2_with (go_at_call 107; refine (fail_calls _ g _ _ (hR.blk.drewN _) rfl).mono ?_; rintro e w' ⟨rfl, hb⟩)
        go_ret2
        rw [HZ.out]
        exact ⟨⟨_, rfl⟩, _, (hR.drewN _).trans hb, rfl⟩
      · by_cases h3 : l[at_ + k] = 13
        · rw [h3] at hc2
          have hsl := slice_run 23 5 Tryz.underlying23 size5 ad l.length c at_ k (by omega)
          have hb := (hl.far hlw HA.out).sub c at_ k hk hc
          have hlk : ((l.drop at_).take k).length = k := by simp; omega
          have hcv : ∀ m : Nat, (convert 23 9 (.slice (some (subA ad c at_)) k (c - at_))).run Tryz.prog (wr.drewN m) = .ok (.string (bs ((l.drop at_).take k))) (wr.drewN m) := fun m => by
            have := (hb.drewN m).conv (c - at_)
            rwa [hlk] at this
          have HZ := Lib.hid (lineAt_cr (l := l) (a := at_) (k := k) (by rw [HS.out, HB.out, h3]; rfl))
          have hl2 := Lib.hid hlk
          clear hlk h2 h3 HB
          go_wp2
          go_quiet (fail)
          go_wp2
          go_quiet (fail)
          go_wp2
          go_quiet (fail)
          go_wp2_with fail
          refine (ends_calls _ g _ l (hR.blk.drewN _) rfl rfl ((hl.far hlw HA.out).drewN _) HA.out hlen hk ((hlw.cell (p := ⟨0, 0, none⟩) hg).trans e0) ((hlw.cell (p := ⟨0, 1, none⟩) hg).trans e1)).mono ?_
          rintro e w' hT
          cases hE : endsAt l (at_ + k) with
          | error x =>
            simp only [hE, Except.map] at hT
            obtain ⟨rfl, s', hT, hc'⟩ := hT
            have HE := Lib.hid hE
            clear hE
            go_wp2
            go_ret2
            rw [HZ.out, HE.out]
            exact ⟨⟨_, rfl⟩, _, (hR.drewN _).trans hT, hc'⟩
          | ok x =>
            simp only [hE, Except.map] at hT
            obtain ⟨rfl, hT⟩ := hT
            have HE := Lib.hid hE
            clear hE
            go_wp2
            go_ret2
            rw [HZ.out, HE.out]
            exact ⟨rfl, (hR.drewN _).trans hT⟩
        · have b2 : ((l[at_ + k].toNat : Int) == 10) = false := u8_beq (b := 10) h2
          have b2' : ((l[at_ + k].toNat : Int) != 10) = true := u8_bne (b := 10) h2
          have b3 : ((l[at_ + k].toNat : Int) == 13) = false := u8_beq (b := 13) h3
          have b3' : ((l[at_ + k].toNat : Int) != 13) = true := u8_bne (b := 13) h3
          by_cases h4 : 300 ≤ k
          · have HZ := Lib.hid (lineAt_err (l := l) (a := at_) (c := 4) (by rw [HS.out, HB.out]; simp [scan, h2, h3, h4]))
            have d4 : decide ((300 : Int) ≤ (at_ : Int) + (k : Int) - (at_ : Int)) = true := by simp; omega
            clear h2 h3 HB h4
            generalize (l[at_ + k].toNat : Int) = x at hc2 hc1 b2 b2' b3 b3'
            go_wp2
            go_quiet (fail)
            go_wp2
            go_quiet (fail)
            go_wp2_with (go_at_call 107; refine (fail_calls _ g _ _ (hR.blk.drewN _) rfl).mono ?_; rintro e w' ⟨rfl, hb⟩)
            go_ret2
            rw [HZ.out]
            exact ⟨⟨_, rfl⟩, _, (hR.drewN _).trans hb, rfl⟩
          · have HZ := Lib.hid (show scan 0 (l.drop at_) = scan (k + 1) (l.drop (at_ + (k + 1))) by rw [HS.out, HB.out]; simp [scan, h2, h3, h4, Nat.add_assoc])
            have d4 : decide ((300 : Int) ≤ (at_ : Int) + (k : Int) - (at_ : Int)) = false := by simp; omega
            clear h2 h3 HB h4
            generalize (l[at_ + k].toNat : Int) = x at hc2 hc1 b2 b2' b3 b3'
            go_wp2
            go_quiet (fail)
            go_wp2
            go_quiet (fail)
            go_wp2
            go_roundg (l.length - (at_ + (k + 1)))
            case measure => rw [hgk.out]; omega
            case rel => exact ⟨k + 1, rfl, by omega, (hR.drewN _).set 1 _ (by simp [RS.cells]; omega), HZ⟩
    · have HZ := Lib.hid (show lineAt l at_ = .error 3 by unfold lineAt; rw [HS.out, List.drop_of_length_le (by omega)]; rfl)
      have d1 : decide ((at_ : Int) + (k : Int) < (l.length : Int)) = false := by simp; omega
      clear h1
      go_wp2
      go_quiet (fail)
      go_wp2_with (go_at_call 107; refine (fail_calls _ g _ _ (hR.blk.drewN _) rfl).mono ?_; rintro e w' ⟨rfl, hb⟩)
      go_ret2
      rw [HZ.out]
      exact ⟨⟨_, rfl⟩, _, (hR.drewN _).trans hb, rfl⟩
end Go.Proofs.YtcognpibphpadaaGreatDoor
