/- http: the first line. -/
import Derived.Test.YtcognpibphpadaaGreatDoorZSplit
import Derived.Test.YtcognpibphpadaaGreatDoorZDig
import Derived.Test.YtcognpibphpadaaGreatDoorZRead
import Derived.Test.YtcognpibphpadaaGreatDoorZPath
import Derived.BigRegion
set_option linter.unusedVariables false
set_option linter.unusedSimpArgs false
namespace Go.Proofs.YtcognpibphpadaaGreatDoor
open Go.RowKit

structure Rd (w : World) (g : Nat) (s : RS) (l : B) : Prop where
  blk : RBlk w g s
  n : s.n = l.length
  bytes : Bts w s.A l
  far : ∀ ad, s.A = some ad → ad.block < g
  len : l.length ≤ 8192
  cap : s.n ≤ s.c
  at_ : s.at_ ≤ l.length
  e : s.e = 0
  glob : Glob w
  g : 4 < g
theorem RTo.far {w w1 w2 : World} {g : Nat} {s : RS} (h : RTo w w1 g s) (hl : Low w1.heap.size w1 w2) : RTo w w2 g s :=
  ⟨⟨(hl.out.block g h.blk.lt).trans h.blk.out⟩, ⟨hl.out.os.trans h.grown.os, hl.out.tape.trans h.grown.tape, hl.out.output.trans h.grown.output, Nat.le_trans h.grown.size hl.size, fun i hi hne =>
    (hl.out.block i (Nat.lt_of_lt_of_le hi h.grown.size)).trans (h.grown.block i hi hne)⟩⟩
theorem Rd.to {w w1 : World} {g : Nat} {s s1 : RS} {l : B} (h : Rd w g s l) (k : RTo w w1 g s1) (hA : s1.A = s.A) (hn : s1.n = s.n) (hc : s1.c = s.c) (ha : s1.at_ ≤ l.length) (he : s1.e = 0) : Rd w1 g s1 l := by
  have hl := k.low (Nat.le_refl _) h.blk.lt
  exact ⟨k.blk, hn.trans h.n, hA ▸ h.bytes.far hl h.far, hA ▸ h.far, h.len, by rw [hn, hc]; exact h.cap, ha, he, h.glob.low hl h.g, h.g⟩

def verSp : B := [72, 84, 84, 80, 47, 49, 46, 49, 32]
def ver : B := [72, 84, 84, 80, 47, 49, 46, 49]
def firstF (s : B) : Option (B × B × Int) :=
  if Lib.hasPrefix s verSp = true then
    match digF 10 (Lib.cut (Lib.trimPrefix s verSp) [32]).1 with
    | some n => if ((Lib.cut (Lib.trimPrefix s verSp) [32]).2.2 && (decide ((Lib.cut (Lib.trimPrefix s verSp) [32]).1.length = 3) && (statusB n && visFrom 32 (Lib.cut (Lib.trimPrefix s verSp) [32]).2.1))) = true then some ([], [], n) else none
    | none => none
  else match splitSp s with
    | [a, b, c] => if (methodB a && (pathB b && c == ver)) = true then some (a, b, 0) else none
    | _ => none
def firstAt (l : B) (a : Nat) : Except Int (B × B × Int × Nat) :=
  match lineAt l a with
  | .error c => .error c
  | .ok (s, a') => match firstF s with
    | none => .error 4
    | some (m, p, n) => .ok (m, p, n, a')
theorem lineAt_len {l : B} {a : Nat} {t : B} {x : Nat} (h : lineAt l a = .ok (t, x)) : t.length ≤ l.length := by
  unfold lineAt at h
  split at h
  · cases h
  · split at h
    · cases h
    · cases h; simp; omega
theorem splitSp_mem : ∀ (l x : B), x ∈ splitSp l → x.length ≤ l.length
  | [], x, h => by simp [splitSp] at h; simp [h]
  | c :: t, x, h => by
    have ih := splitSp_mem t
    rw [splitSp] at h
    split at h
    · rcases List.mem_cons.1 h with e | e
      · simp [e]
      · have := ih x e; simp; omega
    · split at h
      · next e => exact absurd e (splitSp_ne t)
      · next e =>
        rcases List.mem_cons.1 h with e1 | e1
        · have := ih _ (by rw [e]; exact List.mem_cons_self ..)
          subst e1; simp; omega
        · have := ih x (by rw [e]; exact List.mem_cons_of_mem _ e1)
          simp; omega
theorem trimPrefix_len (s p : B) : (Lib.trimPrefix s p).length ≤ s.length := by
  unfold Lib.trimPrefix; split <;> simp
def fAt : Except Int (B × Nat) → Except Int (B × B × Int × Nat)
  | .error c => .error c
  | .ok (s, a') => match firstF s with
    | none => .error 4
    | some (m, p, n) => .ok (m, p, n, a')
theorem firstAt_eq (l : B) (a : Nat) : firstAt l a = fAt (lineAt l a) := by unfold firstAt fAt; rfl

set_option maxHeartbeats 8000000 in
set_option maxRecDepth 100000 in
theorem first_calls (w : World) (g : Nat) (s : RS) (l : B) (h : Rd w g s l) (hme : s.me = bs []) (hpa : s.pa = bs []) (hst : s.st = 0) :
    Calls Tryz.prog 60 #[.pointer (some ⟨g, 0, none⟩)] w fun e w' => Told w w' g s e ((firstAt l s.at_).map fun x => { s with at_ := x.2.2.2, me := bs x.1, pa := bs x.2.1, st := x.2.2.1 }) := by
  have HL := Lib.hid (line_calls w g s l h.blk h.e h.n h.bytes h.far h.len h.cap h.at_ h.glob.end0 h.glob.end1 (by have := h.g; omega))
  have HT := Lib.hid (fun (t : B) (x : Nat) (e : lineAt l s.at_ = .ok (t, x)) => lineAt_len e)
  rw [firstAt_eq]
  have hlen := h.len
  have hg4 := h.g
  have HG := Lib.hid (fun w1 (k : Low g w w1) => h.glob.low k h.g)
  have HB := Lib.hid h.blk
  have h0 := h.e
  generalize lineAt l s.at_ = la at HL HT
  clear h
  go_enter Tryz.func60, Tryz.ntmps60
  go_wp2_with fail
  refine HL.out.mono ?_
  clear HL
  rcases la with c | ⟨t, a⟩
  · rintro e w1 ⟨⟨x, rfl⟩, s', hR, hs⟩
    go_wp2
    go_ret
    exact ⟨rfl, s', hR, hs⟩
  · rintro e w1 ⟨rfl, hR⟩
    have ht := HT.out t a rfl
    have HF : fAt (.ok (t, a)) = match firstF t with | none => .error 4 | some (m, p, n) => .ok (m, p, n, a) := rfl
    have hFF : firstF t = firstF t := rfl
    conv at hFF => rhs; unfold firstF
    have hlw := hR.low (b := g) (Nat.le_refl _) HB.out.lt
    have HCP := Lib.hid (Tryz.strings_CutPrefix (bs t) (bs verSp) w1)
    simp only [bs_data] at HCP
    have htl := trimPrefix_len t verSp
    generalize Lib.hasPrefix t verSp = hp at HCP hFF
    generalize Lib.trimPrefix t verSp = tr at HCP hFF htl
    cases hp
    · rw [if_neg (by simp)] at hFF
      have hme2 : ∀ x ∈ splitSp t, x.length ≤ t.length := splitSp_mem t
      have HSp := Lib.hid (split_calls (bs t) w1 (by rw [bs_size]; omega) (HG.out _ hlw))
      simp only [bs_data] at HSp
      have HM := Lib.hid method_calls
      generalize splitSp t = ps at HSp hFF hme2
      obtain ⟨W, hW⟩ : ∃ W, W = w1.alloc (.cells (ps.map fun x => Value.string (bs x)).toArray 9) := ⟨_, rfl⟩
      rw [← hW] at HSp
      have hR3 : RTo w W g _ := hW ▸ hR.alloc (.cells (ps.map fun x => Value.string (bs x)).toArray 9)
      have hcell : ∀ j, W.cell? ⟨w1.heap.size, j, none⟩ = (ps.map fun x => Value.string (bs x))[j]? := by
        intro j
        rw [hW, cell_of_row _ _ _ _ _ _ (heap_alloc_new w1 _)]
        simp
      have HX := Lib.hid hFF
      have HF := Lib.hid HF
      clear hFF hW
      go_wp2_with fail
      refine HCP.out.mono ?_
      rintro e w2 ⟨rfl, rfl⟩
      go_wp2_with fail
      refine HSp.out.mono ?_
      rintro e w3 ⟨rfl, rfl⟩
      clear HSp HCP
      by_cases h3 : ps.length = 3
      · match ps, h3 with
        | [x, y, z], _ =>
          have HP := fun w => path_calls (bs y) w (by rw [bs_size]; have := hme2 y (by simp); omega)
          have HM := HM.out (bs x)
          simp only [bs_data] at HP HM
          have k0 := hcell 0
          have k1 := hcell 1
          have k2 := hcell 2
          simp at k0 k1 k2
          have HP := Lib.hid HP
          have HM := Lib.hid HM
          have HX2 := HX.out
          simp only at HX2
          have HX3 := Lib.hid HX2
          clear HX HX2 hme2 hcell
          generalize methodB x = mb at HM HX3
          generalize pathB y = pb at HP HX3
          have HZ := Lib.hid (show (z == ver) = ((bs z).toList == ver) by rw [bs_list])
          generalize (z == ver) = zb at HX3 HZ
          cases mb
          · go_wp2_with (first | (go_at_call 66; refine (HM.out _).mono ?_; rintro e w5 ⟨rfl, rfl⟩) | (go_at_call 107; refine (fail_calls _ g _ 4 hR3.blk h0).mono ?_; rintro e w5 ⟨rfl, hR6⟩))
            go_ret
            rw [HF.out, HX3.out]
            exact ⟨rfl, _, hR3.trans hR6, rfl⟩
          · cases pb
            · go_wp2_with (first | (go_at_call 66; refine (HM.out _).mono ?_; rintro e w5 ⟨rfl, rfl⟩) | (go_at_call 67; refine (HP.out _).mono ?_; rintro e w5 ⟨rfl, rfl⟩) | (go_at_call 107; refine (fail_calls _ g _ 4 hR3.blk h0).mono ?_; rintro e w5 ⟨rfl, hR6⟩))
              go_ret
              rw [HF.out, HX3.out]
              exact ⟨rfl, _, hR3.trans hR6, rfl⟩
            · cases zb
              · have hz : ((bs z).toList == [72, 84, 84, 80, 47, 49, 46, 49]) = false := HZ.out.symm
                go_wp2_with (first | (go_at_call 66; refine (HM.out _).mono ?_; rintro e w5 ⟨rfl, rfl⟩) | (go_at_call 67; refine (HP.out _).mono ?_; rintro e w5 ⟨rfl, rfl⟩) | (go_at_call 107; refine (fail_calls _ g _ 4 hR3.blk h0).mono ?_; rintro e w5 ⟨rfl, hR6⟩))
                go_ret
                rw [HF.out, HX3.out]
                exact ⟨rfl, _, hR3.trans hR6, rfl⟩
              · have hz : ((bs z).toList == [72, 84, 84, 80, 47, 49, 46, 49]) = true := HZ.out.symm
                go_wp2_with (first | (go_at_call 66; refine (HM.out _).mono ?_; rintro e w5 ⟨rfl, rfl⟩) | (go_at_call 67; refine (HP.out _).mono ?_; rintro e w5 ⟨rfl, rfl⟩) | (go_at_call 107; refine (fail_calls _ g _ 4 hR3.blk h0).mono ?_; rintro e w5 ⟨rfl, hR6⟩))
                clear HM HP HZ hz
                have m3 := hR3.blk.cell 3 (by omega)
                have m4 := hR3.blk.cell 4 (by omega)
                have n3 := hR3.blk.free 3
                have n4 := hR3.blk.free 4
                simp [RS.cells] at m3 m4
                have hgne : ¬ g = w2.heap.size := fun e => by have := HB.out.lt; have := hlw.size; omega
                have hgne' : ¬ w2.heap.size = g := fun e => hgne e.symm
                have HR3 := Lib.hid hR3
                clear hR3
                go_region
                go_wp2
                go_ret
                rw [HF.out, HX3.out]
                refine ⟨rfl, ?_⟩
                have := ((HR3.out.set (s2 := { s with at_ := a, me := bs x }) 3 (.string (bs x)) (by simp [RS.cells])).set (s2 := { s with at_ := a, me := bs x, pa := bs y }) 4 (.string (bs y)) (by simp [RS.cells])).drew
                simpa [hst] using this
      · have HX2 := HX.out
        have d3 : ((ps.length : Int) != 3) = true := by rw [bne_iff_ne]; omega
        have HX3 := Lib.hid (show firstF t = none by
          rw [HX2]
          split
          · exact absurd rfl h3
          · rfl)
        clear HX HX2 h3
        go_wp2_with (go_at_call 107; refine (fail_calls _ g _ 4 hR3.blk h0).mono ?_; rintro e w5 ⟨rfl, hR6⟩)
        go_ret
        rw [HF.out, HX3.out]
        exact ⟨rfl, _, hR3.trans hR6, rfl⟩
    · rw [if_pos rfl] at hFF
      have hcl := cut_len tr [32]
      have HC := Lib.hid (cut_calls (bs tr) (bs [32]) w1 (by rw [bs_size]; omega) (HG.out _ hlw))
      simp only [bs_data] at HC
      generalize Lib.cut tr [32] = ct at HC hFF hcl
      obtain ⟨code, word, is⟩ := ct
      simp only at hFF hcl
      have HD := Lib.hid (fun w2 (k : Low g w w2) => digits10 (bs code) w2 (HG.out _ k))
      have HV := fun w => visible_calls (bs word) 32 w (by rw [bs_size]; omega)
      simp only [bs_data] at HD HV
      have HV := Lib.hid HV
      have HS := Lib.hid status_calls
      have HX : Hid (_ = _) := Lib.hid hFF
      have HF := Lib.hid HF
      clear hFF
      generalize visFrom 32 word = vi at HV HX
      go_wp2_with fail
      refine HCP.out.mono ?_
      rintro e w2 ⟨rfl, rfl⟩
      go_wp2_with fail
      refine HC.out.mono ?_
      rintro e w3 ⟨rfl, hl3⟩
      have hR3 := hR.far hl3
      go_wp2_with fail
      refine (HD.out _ (hR3.low (Nat.le_refl _) HB.out.lt)).mono ?_
      rintro e w4 ⟨rfl, hl4⟩
      have hR4 := hR3.far hl4
      have f5 := hR4.blk.free 5
      have c5 := hR4.blk.cell 5 (by omega)
      simp [RS.cells] at c5
      cases hdig : digF 10 code with
      | none =>
        have HX2 := HX.out
        rw [hdig] at HX2
        dsimp only at HX2
        have HX3 := Lib.hid HX2
        have hR5 := hR4.set (s2 := { s with at_ := a, st := 0 }) 5 (.int .i64 0) (by simp [RS.cells])
        clear HX hdig HX2
        simp only [dAns]
        cases is
        all_goals
          go_wp2_with (go_at_call 107; refine (fail_calls _ g _ 4 hR5.blk h0).mono ?_; rintro e w5 ⟨rfl, hR6⟩)
          go_ret
          rw [HF.out, HX3.out]
          exact ⟨rfl, _, hR5.trans hR6, rfl⟩
      | some n =>
        have HX2 := HX.out
        rw [hdig] at HX2
        dsimp only at HX2
        have HX3 := Lib.hid HX2
        have hR5 := hR4.set (s2 := { s with at_ := a, st := n }) 5 (.int .i64 n) (by simp [RS.cells])
        clear HX hdig HX2
        simp only [dAns]
        have d3 : (((bs code).size : Int) != 3) = !decide (code.length = 3) := by
          rw [bs_size]
          by_cases h : code.length = 3
          · simp [h]
          · simp [h]; omega
        generalize decide (code.length = 3) = k3 at d3 HX3
        have D3 := Lib.hid d3
        clear d3
        cases is
        · go_wp2_with (go_at_call 107; refine (fail_calls _ g _ 4 hR5.blk h0).mono ?_; rintro e w5 ⟨rfl, hR6⟩)
          go_ret
          rw [HF.out, HX3.out]
          exact ⟨rfl, _, hR5.trans hR6, rfl⟩
        · cases k3
          · have dd := D3.out
            go_wp2_with (go_at_call 107; refine (fail_calls _ g _ 4 hR5.blk h0).mono ?_; rintro e w5 ⟨rfl, hR6⟩)
            go_ret
            rw [HF.out, HX3.out]
            exact ⟨rfl, _, hR5.trans hR6, rfl⟩
          · have dd := D3.out
            have HS := Lib.hid (HS.out n)
            generalize statusB n = sb at HS HX3
            cases sb
            · go_wp2_with (first | (go_at_call 68; refine (HS.out _).mono ?_; rintro e w5 ⟨rfl, rfl⟩) | (go_at_call 107; refine (fail_calls _ g _ 4 hR5.blk h0).mono ?_; rintro e w5 ⟨rfl, hR6⟩))
              go_ret
              rw [HF.out, HX3.out]
              exact ⟨rfl, _, hR5.trans hR6, rfl⟩
            · cases vi
              · go_wp2_with (first | (go_at_call 68; refine (HS.out _).mono ?_; rintro e w5 ⟨rfl, rfl⟩) | (go_at_call 106; refine (HV.out _).mono ?_; rintro e w5 ⟨rfl, rfl⟩) | (go_at_call 107; refine (fail_calls _ g _ 4 hR5.blk h0).mono ?_; rintro e w5 ⟨rfl, hR6⟩))
                go_ret
                rw [HF.out, HX3.out]
                exact ⟨rfl, _, hR5.trans hR6, rfl⟩
              · go_wp2_with (first | (go_at_call 68; refine (HS.out _).mono ?_; rintro e w5 ⟨rfl, rfl⟩) | (go_at_call 106; refine (HV.out _).mono ?_; rintro e w5 ⟨rfl, rfl⟩) | (go_at_call 107; refine (fail_calls _ g _ 4 hR5.blk h0).mono ?_; rintro e w5 ⟨rfl, hR6⟩))
                go_ret
                rw [HF.out, HX3.out]
                refine ⟨rfl, ?_⟩
                simpa [hme, hpa] using hR5
end Go.Proofs.YtcognpibphpadaaGreatDoor
