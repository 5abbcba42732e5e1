/- http: the body. -/
import Derived.Test.YtcognpibphpadaaGreatDoorZTake
set_option linter.unusedVariables false
set_option linter.unusedSimpArgs false
namespace Go.Proofs.YtcognpibphpadaaGreatDoor
open Go.RowKit

theorem cbd_le (k : Nat) : cbd k ≤ 65535 := by
  match k with
  | 0 => decide
  | 1 => decide
  | 2 => decide
  | 3 => decide
  | k + 4 => simp [cbd]
theorem numF_bd {base : Int} (hb : base = 10 ∨ base = 16) : ∀ (l : B) (k : Nat) (acc n : Int), 0 ≤ acc → acc ≤ cbd k → k + l.length ≤ 4 → numF base acc l = some n → 0 ≤ n ∧ n ≤ 65535
  | [], k, acc, n, h0, h1, _, e => by
    have := cbd_le k
    simp [numF] at e; omega
  | c :: t, k, acc, n, h0, h1, h4, e => by
    rw [numF] at e
    cases hd : digI c.toNat with
    | none => rw [hd] at e; cases e
    | some d =>
      rw [hd] at e
      dsimp only at e
      by_cases hlt : d < base
      · rw [if_pos hlt] at e
        have hs := cbd_step base acc d hb k (by simp at h4; omega) h0 h1 (dig_range c d hd).1 hlt
        exact numF_bd hb t (k + 1) _ n hs.1 hs.2 (by simp at h4; omega) e
      · rw [if_neg hlt] at e; cases e
theorem digF_bd {base : Int} (hb : base = 10 ∨ base = 16) {l : B} {n : Int} (h : digF base l = some n) : 0 ≤ n ∧ n ≤ 65535 := by
  unfold digF at h
  split at h
  · next hl => exact numF_bd hb l 0 0 n (by omega) (by decide) (by omega) h
  · cases h

def bodyF (l : B) : Nat → Nat → B → Except Int (B × Nat)
  | 0, _, _ => .error 0
  | k + 1, a, body => match lineAt l a with
    | .error c => .error c
    | .ok (s, a1) => match digF 16 s with
      | none => .error 4
      | some n => if 2000 < body.length + n.toNat then .error 5 else if l.length < a1 + n.toNat then .error 3 else match endsAt l (a1 + n.toNat) with
        | .error c => .error c
        | .ok a2 => if n.toNat = 0 then .ok (body ++ (l.drop a1).take n.toNat, a2) else bodyF l k a2 (body ++ (l.drop a1).take n.toNat)
def bodyAll (l : B) (size : Int) (a : Nat) : Except Int (B × Nat) :=
  if size = -1 then bodyF l 2001 a [] else if l.length < a + size.toNat then .error 3 else .ok ((l.drop a).take size.toNat, a + size.toNat)
def bodyLen (w : World) (g : Nat) : Nat := match w.cell? ⟨g, 7, none⟩ with
  | some (.slice _ n _) => n
  | _ => 0
theorem endsAt_at {l : B} {a x : Nat} (h : endsAt l a = .ok x) : x ≤ l.length := by
  unfold endsAt at h
  split at h
  · split at h
    · split at h
      · split at h
        · cases h; omega
        · cases h
      · cases h
    · cases h
  · cases h

def BTold (w w' : World) (g : Nat) (s : RS) (l : B) (heads : List Hd) (e : Ending) : Except Int (B × Nat) → Prop
  | .ok (body, a) => e = .returned (.bool true) ∧ ∃ bv, BdS w' g { s with at_ := a, bv := bv } l body heads ∧ Low g w w'
  | .error c => e = .returned (.bool false) ∧ ∃ s', RBlk w' g s' ∧ s'.e = c ∧ Low g w w'

set_option maxHeartbeats 8000000 in
set_option maxRecDepth 100000 in
theorem body_calls (w : World) (g : Nat) (s : RS) (l : B) (heads : List Hd) (h : BdS w g s l [] heads) (hA : ∃ ad, s.A = some ad) (hsz : s.size = -1 ∨ 0 ≤ s.size ∧ s.size ≤ 2000) (hbv : s.bv = .slice none 0 0) :
    Calls Tryz.prog 63 #[.pointer (some ⟨g, 0, none⟩)] w fun e w' => BTold w w' g s l heads e (bodyAll l s.size s.at_) := by
  have H := Lib.hid h
  have hglt := h.rd.blk.lt
  have hlen := h.rd.len
  have k9 := h.rd.blk.cell 9 (by omega)
  simp [RS.cells] at k9
  have HT := Lib.hid (fun (w1 : World) (s1 : RS) (body : B) (n : Nat) (h1 : BdS w1 g s1 l body heads) (hA : ∃ ad, s1.A = some ad) (hb : body.length + n ≤ 100000) => take_calls w1 g s1 l body heads n h1 hA hb)
  have HFe := Lib.hid (fun (w1 : World) (s1 : RS) (c : Int) (hb : RBlk w1 g s1) (h0 : s1.e = 0) => fail_calls w1 g s1 c hb h0)
  have HLi := Lib.hid (fun (w1 : World) (s1 : RS) (h1 : Rd w1 g s1 l) => line_calls w1 g s1 l h1.blk h1.e h1.n h1.bytes h1.far h1.len h1.cap h1.at_ h1.glob.end0 h1.glob.end1 (by have := h1.g; omega))
  have HEn := Lib.hid (fun (w1 : World) (s1 : RS) (h1 : Rd w1 g s1 l) => ends_calls w1 g s1 l h1.blk h1.e h1.n h1.bytes h1.far h1.len h1.at_ h1.glob.end0 h1.glob.end1)
  have HA := Lib.hid hA
  clear h hA
  by_cases hm : s.size = -1
  · have hba : bodyAll l s.size s.at_ = bodyF l 2001 s.at_ [] := by unfold bodyAll; rw [if_pos hm]
    rw [hba]
    have dm : (s.size != -1) = false := by rw [hm]; rfl
    clear hba hsz
    go_enter Tryz.func63, Tryz.ntmps63
    go_wp2
    go_loopw [2] (fun v wr => ∃ (a : Nat) (body : B) (bv : Value) (k : Nat), v = .bool false ∧ body.length ≤ 2000 ∧ 2001 ≤ k + body.length ∧ bodyLen wr g = body.length ∧ BdS wr g { s with at_ := a, bv := bv } l body heads ∧ Low g w wr ∧ Hid (bodyF l 2001 s.at_ [] = bodyF l k a body)) (fun _ wr => 2001 - bodyLen wr g)
    case atStart =>
      refine ⟨s.at_, [], s.bv, 2001, rfl, by simp, by simp, ?_, H.out, Low.refl _ _, Lib.hid rfl⟩
      unfold bodyLen
      rw [H.out.rd.blk.cell 7 (by omega)]
      simp [RS.cells, hbv]
    case round =>
      obtain ⟨a, body, bv, k, rfl, hb2, hk, hbl, hB, hL, HE⟩ := hrel
      obtain ⟨k, rfl⟩ : ∃ k', k = k' + 1 := ⟨k - 1, by omega⟩
      have hstep := HE.out
      conv at hstep => rhs; rw [bodyF]
      have hT := HLi.out wr _ hB.rd
      have hll := fun (t : B) (x : Nat) (e : lineAt l a = .ok (t, x)) => (⟨lineAt_len e, lineAt_at e⟩ : _ ∧ _)
      simp only at hT
      generalize lineAt l a = la at hT hll hstep
      have HT1 := Lib.hid hT
      clear hT HE
      have HS := Lib.hid hstep
      clear hstep
      go_wp2_with fail
      refine HT1.out.mono ?_
      rcases la with ce | ⟨t, a1⟩
      · rintro e w1 ⟨⟨x, rfl⟩, s', hR1, hs⟩
        go_wp2
        go_ret
        rw [HS.out]
        exact ⟨rfl, s', hR1.blk, hs, hL.trans (hR1.low (Nat.le_refl _) hB.rd.blk.lt)⟩
      · rintro e w1 ⟨rfl, hR1⟩
        obtain ⟨ht, ha'⟩ := hll t a1 rfl
        have hB1 := hB.to hR1 rfl rfl rfl ha' hB.rd.e rfl rfl
        have hL1 := hL.trans (hR1.low (Nat.le_refl _) hB.rd.blk.lt)
        have hHS := HS.out
        dsimp only at hHS
        have HDg := digits16 (bs t) w1 hB1.rd.glob
        simp only [bs_data] at HDg
        have hbd := fun n => digF_bd (base := 16) (l := t) (n := n) (Or.inr rfl)
        generalize digF 16 t = dg at HDg hHS hbd
        have HDg := Lib.hid HDg
        go_wp2_with fail
        refine HDg.out.mono ?_
        rintro e w2 ⟨rfl, hl2⟩
        have hB2 := hB1.far hl2
        have hL2 := hL1.trans (hl2.mono (Nat.le_of_lt hB1.rd.blk.lt))
        cases dg with
        | none =>
          dsimp only at hHS
          have HS2 := Lib.hid hHS
          clear hHS HS
          simp only [dAns]
          go_wp2_with (go_at_call 107; refine (HFe.out _ _ 4 hB2.rd.blk hB2.rd.e).mono ?_; rintro e w5 ⟨rfl, hR6⟩)
          go_ret
          rw [HS2.out]
          exact ⟨rfl, _, hR6.blk, rfl, hL2.trans (hR6.low (Nat.le_refl _) hB2.rd.blk.lt)⟩
        | some n =>
          obtain ⟨hn0, hn1⟩ := hbd n rfl
          obtain ⟨n, rfl⟩ := Int.eq_ofNat_of_zero_le hn0
          dsimp only at hHS
          simp only [Int.toNat_natCast] at hHS
          simp only [dAns]
          obtain ⟨A1, c1, hbv1, _, _, _⟩ := hB2.body.slice
          simp only at hbv1
          have k7 := hB2.rd.blk.cell 7 (by omega)
          simp [RS.cells, hbv1] at k7
          have hwr : IntKind.i64.wrap ((body.length : Int) + (n : Int)) = (body.length : Int) + (n : Int) := by
            have : (n : Int) ≤ 65535 := hn1
            go_unwrap
          by_cases hbig : 2000 < body.length + n
          · rw [if_pos hbig] at hHS
            have db : decide ((2000 : Int) < (body.length : Int) + (n : Int)) = true := by simp; omega
            have HS2 := Lib.hid hHS
            clear hHS HS hbig
            go_wp2_with (go_at_call 107; refine (HFe.out _ _ 5 hB2.rd.blk hB2.rd.e).mono ?_; rintro e w5 ⟨rfl, hR6⟩)
            go_ret
            rw [HS2.out]
            exact ⟨rfl, _, hR6.blk, rfl, hL2.trans (hR6.low (Nat.le_refl _) hB2.rd.blk.lt)⟩
          · rw [if_neg hbig] at hHS
            have db : decide ((2000 : Int) < (body.length : Int) + (n : Int)) = false := by simp; omega
            have HTk := HT.out w2 _ body n hB2 HA.out (by omega)
            dsimp only at HTk
            by_cases hsh : l.length < a1 + n
            · rw [if_pos hsh] at hHS
              simp only [if_pos hsh] at HTk
              have HTk := Lib.hid HTk
              have HS2 := Lib.hid hHS
              clear hHS HS hbig hsh
              go_wp2_with (go_at_call 113; refine HTk.out.mono ?_; rintro e w3 ⟨rfl, s', hb3, hs3, hl3⟩)
              go_ret
              rw [HS2.out]
              exact ⟨rfl, s', hb3, hs3, hL2.trans hl3⟩
            · rw [if_neg hsh] at hHS
              simp only [if_neg hsh] at HTk
              have HTk := Lib.hid HTk
              have hxl : ((l.drop a1).take n).length = n := by simp; omega
              generalize (l.drop a1).take n = x at hHS HTk hxl
              have HHS := Lib.hid hHS
              have HBig := Lib.hid hbig
              clear hHS HS hbig hsh
              go_wp2_with fail
              refine HTk.out.mono ?_
              rintro e w3 ⟨rfl, bv', hB3, hl3⟩
              have hL3 := hL2.trans hl3
              have HE3 := HEn.out w3 _ hB3.rd
              have hat4 := fun (y : Nat) (e : endsAt l (a1 + n) = .ok y) => endsAt_at e
              dsimp only at HE3
              have hHS := HHS.out
              generalize endsAt l (a1 + n) = en at HE3 hHS hat4
              have HE3 := Lib.hid HE3
              go_wp2_with fail
              refine HE3.out.mono ?_
              rcases en with ce | a2
              · rintro e w4 ⟨rfl, s', hR4, hs4⟩
                dsimp only at hHS
                have HS2 := Lib.hid hHS
                clear hHS
                go_wp2
                go_ret
                rw [HS2.out]
                exact ⟨rfl, s', hR4.blk, hs4, hL3.trans (hR4.low (Nat.le_refl _) hB3.rd.blk.lt)⟩
              · rintro e w4 ⟨rfl, hR4⟩
                dsimp only at hHS
                have hB4 := hB3.to hR4 rfl rfl rfl (hat4 a2 rfl) hB3.rd.e rfl rfl
                have hL4 := hL3.trans (hR4.low (Nat.le_refl _) hB3.rd.blk.lt)
                by_cases hn0 : n = 0
                · rw [if_pos hn0] at hHS
                  have dn : ((n : Int) == 0) = true := by rw [beq_iff_eq]; omega
                  have HS2 := Lib.hid hHS
                  clear hHS
                  go_wp2
                  go_ret
                  rw [HS2.out]
                  exact ⟨rfl, bv', hB4, hL4⟩
                · rw [if_neg hn0] at hHS
                  have dn : ((n : Int) == 0) = false := by rw [beq_eq_false_iff_ne]; omega
                  have HS2 := Lib.hid hHS
                  clear hHS
                  have hbg := HBig.out
                  obtain ⟨A2, c2, hbv2, _, _, _⟩ := hB4.body.slice
                  have hbl2 : bodyLen w4 g = body.length + n := by
                    unfold bodyLen
                    rw [hB4.rd.blk.cell 7 (by omega)]
                    simp [RS.cells] at hbv2 ⊢
                    rw [hbv2]
                    simp [hxl]
                  go_wp2
                  refine ⟨⟨a2, body ++ x, bv', k, rfl, by rw [List.length_append]; omega, by rw [List.length_append]; omega, by rw [hbl2, List.length_append]; omega, hB4, hL4, Lib.hid HS2.out⟩, by rw [hbl2, hbl]; omega⟩
  · have hba : bodyAll l s.size s.at_ = if l.length < s.at_ + s.size.toNat then .error 3 else .ok ((l.drop s.at_).take s.size.toNat, s.at_ + s.size.toNat) := by unfold bodyAll; rw [if_neg hm]
    have dm : (s.size != -1) = true := by rw [bne_iff_ne]; exact hm
    obtain ⟨n, hn⟩ : ∃ n : Nat, s.size = n := ⟨s.size.toNat, by omega⟩
    have hTk := HT.out w s [] n H.out HA.out (by simp; omega)
    rw [hn] at hba k9 dm
    simp only [Int.toNat_natCast] at hba
    rw [hn, hba]
    clear hba hm
    by_cases hsh : l.length < s.at_ + n
    · simp only [if_pos hsh] at hTk ⊢
      have HTk := Lib.hid hTk
      clear hTk hsh
      go_enter Tryz.func63, Tryz.ntmps63
      go_wp2_with (go_at_call 113; refine HTk.out.mono ?_; rintro e w3 ⟨rfl, s', hb3, hs3, hl3⟩)
      go_ret
      exact ⟨rfl, s', hb3, hs3, hl3⟩
    · simp only [if_neg hsh] at hTk ⊢
      have HTk := Lib.hid hTk
      clear hTk hsh
      go_enter Tryz.func63, Tryz.ntmps63
      go_wp2_with (go_at_call 113; refine HTk.out.mono ?_; rintro e w3 ⟨rfl, bv', hB3, hl3⟩)
      go_ret
      exact ⟨rfl, bv', hB3, hl3⟩
end Go.Proofs.YtcognpibphpadaaGreatDoor
