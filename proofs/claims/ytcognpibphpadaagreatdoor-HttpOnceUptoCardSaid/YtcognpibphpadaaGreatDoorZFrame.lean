/- http: how long is the body? -/
import Derived.Test.YtcognpibphpadaaGreatDoorZHeads
import Derived.Test.YtcognpibphpadaaGreatDoorZHead
set_option linter.unusedVariables false
set_option linter.unusedSimpArgs false
namespace Go.Proofs.YtcognpibphpadaaGreatDoor
open Go.RowKit

structure FS where
  many : Nat
  fine : Bool
  size : Int
  heads : List Hd
def chuB : B := [99, 104, 117, 110, 107, 101, 100]
def frameStep (f : FS) (h : Hd) : FS :=
  if alike h.1 lenB = true then ⟨f.many + 1, (digF 10 h.2).isSome, (digF 10 h.2).getD 0, f.heads⟩
  else if alike h.1 codB = true then ⟨f.many + 1, h.2.map lowB == chuB, -1, f.heads⟩
  else if keptB h.1 = true then ⟨f.many, f.fine, f.size, f.heads ++ [h]⟩ else f
def frameAll (raw : List Hd) : FS := raw.foldl frameStep ⟨0, true, 0, []⟩
def frameF (raw : List Hd) : Except Int (Int × List Hd) :=
  if 1 < (frameAll raw).many then .error 50 else if (frameAll raw).fine = false then .error 50 else if 2000 < (frameAll raw).size then .error 5 else .ok ((frameAll raw).size, (frameAll raw).heads)

structure FrS (w wr : World) (g : Nat) (s : RS) (raw : List Hd) (f : FS) (hv : Value) : Prop where
  blk : RBlk wr g { s with hv := hv, size := f.size }
  own : HOwn wr (g + 1) hv f.heads
  raw : HOwn wr (g + 1) s.rv raw
  dis : ∀ k, hv.ownBlock = some k → s.rv.ownBlock ≠ some k
  low : Low g w wr
theorem FrS.far {w wr w1 : World} {g : Nat} {s : RS} {raw : List Hd} {f : FS} {hv : Value} (h : FrS w wr g s raw f hv) (hl : Low wr.heap.size wr w1) : FrS w w1 g s raw f hv :=
  ⟨⟨(hl.out.block g h.blk.lt).trans h.blk.out⟩, h.own.low hl (Nat.le_refl _), h.raw.low hl (Nat.le_refl _), h.dis, h.low.trans (hl.mono (Nat.le_of_lt h.blk.lt))⟩
theorem HOwn.setG {w : World} {g b : Nat} {v : Value} {l : List Hd} (h : HOwn w b v l) (hb : g < b) (k : Nat) (x : Value) : HOwn (w.setCell ⟨g, k, none⟩ x) b v l :=
  h.same fun j hj => Below.heap_setCell w _ _ j (fun e => by have := (h.out.lt j hj).1; simp at e; omega)
theorem FrS.size {w wr : World} {g : Nat} {s : RS} {raw : List Hd} {f : FS} {hv : Value} (h : FrS w wr g s raw f hv) (m : Nat) (fi : Bool) (n : Int) : FrS w (wr.setCell ⟨g, 9, none⟩ (.int .i64 n)) g s raw ⟨m, fi, n, f.heads⟩ hv :=
  ⟨((RTo.refl h.blk).set 9 _ (by simp [RS.cells])).blk, h.own.setG (Nat.lt_succ_self g) _ _, h.raw.setG (Nat.lt_succ_self g) _ _, h.dis, h.low.setCell (Nat.le_refl _) _⟩

def FTold (w w' : World) (g : Nat) (s : RS) (e : Ending) : Except Int (Int × List Hd) → Prop
  | .ok (n, heads) => e = .returned (.bool true) ∧ ∃ hv, RBlk w' g { s with hv := hv, size := n } ∧ HOwn w' (g + 1) hv heads ∧ Low g w w'
  | .error c => e = .returned (.bool false) ∧ ∃ s', RBlk w' g s' ∧ s'.e = c ∧ Low g w w'

set_option maxHeartbeats 8000000 in
set_option maxRecDepth 100000 in
theorem frame_calls (w : World) (g : Nat) (s : RS) (l : B) (raw : List Hd) (h : Rd w g s l) (hraw : HOwn w (g + 1) s.rv raw) (h20 : raw.length ≤ 20) (hv8 : ∀ h ∈ raw, h.2.length ≤ 8192) (hhv : s.hv = .slice none 0 0) (hsz : s.size = 0) :
    Calls Tryz.prog 62 #[.pointer (some ⟨g, 0, none⟩)] w fun e w' => FTold w w' g s e (frameF raw) := by
  have HR := Lib.hid h
  have HFe := Lib.hid (fun (w1 : World) (s1 : RS) (c : Int) (hb : RBlk w1 g s1) (h0 : s1.e = 0) => fail_calls w1 g s1 c hb h0)
  have hglt := h.blk.lt
  have h0 := h.e
  have HV8 := Lib.hid hv8
  obtain ⟨A, c, hrv, hle, hHds, hA⟩ := hraw.slice
  have c8 : w.cell? ⟨g, 8, none⟩ = some (.slice A raw.length c) := by rw [h.blk.cell 8 (by omega)]; simp [RS.cells, hrv]
  have HS0 : FrS w w g s raw ⟨0, true, 0, []⟩ (.slice none 0 0) := ⟨by rw [← hhv, ← hsz]; exact h.blk, HOwn.nil _ _, hraw, fun k hk => (by cases hk), Low.refl _ _⟩
  have HS0 := Lib.hid HS0
  have HRV := Lib.hid hrv
  clear h hv8 hHds hA hrv hhv hsz
  go_enter Tryz.func62, Tryz.ntmps62
  go_wp2
  go_loopw [3, 4, 12] (fun m fi i wr => ∃ (k : Nat) (f : FS) (hv : Value), k ≤ raw.length ∧ i = .int .i64 k ∧ m = .int .i64 f.many ∧ fi = .bool f.fine ∧ f.many ≤ k ∧ f.heads.length ≤ k ∧ FrS w wr g s raw f hv ∧ Hid (frameAll raw = (raw.drop k).foldl frameStep f)) (fun _ _ i _ => raw.length - (intOf i).toNat)
  case atStart => exact ⟨0, ⟨0, true, 0, []⟩, .slice none 0 0, by omega, rfl, rfl, rfl, by simp, by simp, HS0.out, Lib.hid rfl⟩
  case round =>
    obtain ⟨k, f, hv, hk, rfl, rfl, rfl, hm, hhl, hF, HA⟩ := hrel
    obtain ⟨many, fine, size, heads⟩ := f
    simp only at hm hhl
    by_cases hlt : k < raw.length
    · obtain ⟨A', c', hrv', _, hHds, hAd⟩ := hF.raw.slice
      rw [HRV.out] at hrv'
      cases hrv'
      obtain ⟨ad, rfl, h0', h1'⟩ := hHds.out k hlt
      have hdr := List.drop_eq_getElem_cons hlt
      have hv1 := HV8.out _ (List.getElem_mem hlt)
      generalize raw[k] = hd at h0' h1' hdr hv1
      obtain ⟨n, v⟩ := hd
      simp only at h0' h1' hv1
      have hst : frameAll raw = (raw.drop (k + 1)).foldl frameStep (frameStep ⟨many, fine, size, heads⟩ (n, v)) := by rw [HA.out, hdr, List.foldl_cons]
      clear hdr HA
      have hfs : frameStep ⟨many, fine, size, heads⟩ (n, v) = if alike n lenB = true then ⟨many + 1, (digF 10 v).isSome, (digF 10 v).getD 0, heads⟩
        else if alike n codB = true then ⟨many + 1, v.map lowB == chuB, -1, heads⟩
        else if keptB n = true then ⟨many, fine, size, heads ++ [(n, v)]⟩ else ⟨many, fine, size, heads⟩ := rfl
      have HI := fun w => isLength_calls (bs n) w
      have HC := fun w => isCoding_calls (bs n) w
      have HK := fun w => kept_calls (bs n) w
      have HD := fun w => digits10 (bs v) w
      have HL := fun w => lower_calls2 (bs v) w (by rw [bs_size]; omega)
      simp only [bs_data] at HI HC HK HD HL
      generalize alike n lenB = il at HI hfs
      generalize alike n codB = ic at HC hfs
      generalize keptB n = ik at HK hfs
      generalize digF 10 v = dg at HD hfs
      generalize v.map lowB = lv at HL hfs
      have HI := Lib.hid HI
      have HC := Lib.hid HC
      have HK := Lib.hid HK
      have HD := Lib.hid HD
      have HL := Lib.hid HL
      have HFS := Lib.hid hfs
      have HST := Lib.hid hst
      clear hst hfs hHds hAd
      have hF0 := hF.far ((Low.refl wr.heap.size wr).alloc (Nat.le_refl _) (.cells #[.string (bs n), .string (bs v)] 33))
      have hB0 : HBlk (wr.alloc (.cells #[.string (bs n), .string (bs v)] 33)) wr.heap.size (bs n) (bs v) := ⟨heap_alloc_new wr _⟩
      go_wp2_with fail
      refine (HI.out _).mono ?_
      rintro e w1 ⟨rfl, hl1⟩
      have hF1 := hF0.far hl1
      have hB1 := hB0.low hl1 hB0.lt
      have hn1 := hB1.c0
      have hv1' := hB1.c1
      cases il
      · go_wp2_with fail
        refine (HC.out _).mono ?_
        rintro e w2 ⟨rfl, hl2⟩
        have hF2 := hF1.far hl2
        have hB2 := hB1.low hl2 hB1.lt
        have hn2 := hB2.c0
        have hv2 := hB2.c1
        cases ic
        · go_wp2_with fail
          refine (HK.out _).mono ?_
          rintro e w3 ⟨rfl, hl3⟩
          have hF3 := hF2.far hl3
          have hB3 := hB2.low hl3 hB2.lt
          cases ik
          · go_wp2
            go_roundw
            case rel => exact ⟨k + 1, _, hv, by omega, by go_num, rfl, rfl, by simp; omega, by simp; omega, hF3, Lib.hid (by rw [HST.out, HFS.out]; rfl)⟩
            case measure => simp [intOf]; omega
          · have b0 := hB3.c0
            have b1 := hB3.c1
            have u33 := Tryz.underlying33
            have hgW := hF3.blk.lt
            have k6 : w3.cell? ⟨g, 6, none⟩ = some hv := by rw [hF3.blk.cell 6 (by omega)]; simp [RS.cells]
            have f6 := hF3.blk.free 6
            obtain ⟨A1, c1, hhv2, hle1, _, _⟩ := hF3.own.slice
            have hFW := fun o => hF3.far (((Low.refl w3.heap.size w3).drew).alloc (Nat.le_refl _) o)
            have hNW := heap_alloc_new w3.drew (.cells #[.string (bs n), .string (bs v)] 33)
            have hbW : ∀ o, g + 1 ≤ (w3.drew.alloc o).heap.size := fun o => by simp; omega
            have kk6 : (w3.alloc (.cells #[.string (bs n), .string (bs v)] 33)).cell? ⟨g, 6, none⟩ = some hv := by rw [(hF3.far ((Low.refl w3.heap.size w3).alloc (Nat.le_refl _) (.cells #[.string (bs n), .string (bs v)] 33))).blk.cell 6 (by omega)]; simp [RS.cells]
            have hB4 := hB3.low ((Low.refl w3.heap.size w3).alloc (Nat.le_refl _) (.cells #[.string (bs n), .string (bs v)] 33)) hB3.lt
            have bb0 := hB4.c0
            have bb1 := hB4.c1
            have hgrv : some g ≠ hv.ownBlock := fun e => by have := (hF3.own.out.lt g e.symm).1; omega
            have hBW : ∀ (o : Obj) (W1 : World), (w3.drew.alloc o).grownBy W1 hv.ownBlock → RBlk W1 g { s with hv := hv, size := size } := fun o W1 hg1 => ⟨(hg1.block g (by simp; omega) hgrv).trans (hFW o).blk.out⟩
            go_wp2
            go_region_law (refine step_head (g + 1) hv heads (n, v) w3.heap.size (.tmp 53) (.tmp 55) (hFW _).own hNW rfl rfl (by simp [Act.eval, Act.put, hhv2]) (by simp [Act.eval, Act.put]) (by omega) (hbW _) ?_; intro gg cap W1 ho1 hg1 hat1; have cc6 := (hBW _ _ hg1).cell 6 (by omega); have ff6 := (hBW _ _ hg1).free 6; simp [RS.cells] at cc6)
            all_goals
              go_wp2
              have hB9 := (hBW _ _ hg1)
              have hgl : Low g (w3.drew.alloc (.cells #[.string (bs n), .string (bs v)] 33)) W1 := ⟨⟨hg1.os, hg1.tape, hg1.output, hg1.size, fun k hk => hg1.block k (by simp; omega) (fun e => by have := (hF3.own.out.lt k e.symm).1; omega)⟩⟩
              have hB10 := (RTo.refl hB9).set (s2 := { s with hv := .slice (some ⟨gg, 0, none⟩) (heads.length + 1) cap, size := size }) 6 (.slice (some ⟨gg, 0, none⟩) (heads.length + 1) cap) (by simp [RS.cells])
              have hraw1 : HOwn W1 (g + 1) s.rv raw := (hFW _).raw.same fun j hj => hg1.block j ((hFW (.cells #[.string (bs n), .string (bs v)] 33)).raw.out.lt j hj).2 (fun e => (hF3.dis j e.symm) hj)
              refine ⟨⟨k + 1, ⟨many, fine, size, heads ++ [(n, v)]⟩, .slice (some ⟨gg, 0, none⟩) (heads.length + 1) cap, by omega, by go_num, rfl, rfl, by simp; omega, by simp; omega, ⟨hB10.blk, ho1.setG (Nat.lt_succ_self g) _ _, hraw1.setG (Nat.lt_succ_self g) _ _, ?_, ((hFW _).low.trans hgl).setCell (Nat.le_refl _) _⟩, Lib.hid (by rw [HST.out, HFS.out]; rfl)⟩, by simp [intOf]; omega⟩
              intro j hj hr
              have hjg : j = gg := by simpa [Value.ownBlock] using hj.symm
              subst hjg
              rcases hat1 with e | e
              · exact hF3.dis _ e hr
              · have := (hF3.raw.out.lt _ hr).2
                simp at e; omega
        · go_wp2_with fail
          refine (HL.out _).mono ?_
          rintro e w3 ⟨rfl, hl3⟩
          have hF3 := hF2.far hl3
          have k9 := hF3.blk.cell 9 (by omega)
          have f9 := hF3.blk.free 9
          simp [RS.cells] at k9
          have HQ := Lib.hid (show (lv == chuB) = ((bs lv).toList == [99, 104, 117, 110, 107, 101, 100]) by rw [bs_list]; rfl)
          generalize (lv == chuB) = q at HQ HFS
          have hq := HQ.out.symm
          go_wp2
          go_roundw
          case rel => exact ⟨k + 1, _, hv, by omega, by go_num, by go_num, rfl, by simp; omega, by simp; omega, hF3.size (many + 1) q (-1), Lib.hid (by rw [HST.out, HFS.out]; rfl)⟩
          case measure => simp [intOf]; omega
      · go_wp2_with fail
        refine (HD.out _ (HR.out.glob.low hF1.low HR.out.g)).mono ?_
        rintro e w3 ⟨rfl, hl3⟩
        have hF3 := hF1.far hl3
        have k9 := hF3.blk.cell 9 (by omega)
        have f9 := hF3.blk.free 9
        simp [RS.cells] at k9
        cases dg with
        | none =>
          simp only [dAns]
          go_wp2
          go_roundw
          case rel => exact ⟨k + 1, _, hv, by omega, by go_num, by go_num, rfl, by simp; omega, by simp; omega, hF3.size (many + 1) false 0, Lib.hid (by rw [HST.out, HFS.out]; rfl)⟩
          case measure => simp [intOf]; omega
        | some d =>
          simp only [dAns]
          go_wp2
          go_roundw
          case rel => exact ⟨k + 1, _, hv, by omega, by go_num, by go_num, rfl, by simp; omega, by simp; omega, hF3.size (many + 1) true d, Lib.hid (by rw [HST.out, HFS.out]; rfl)⟩
          case measure => simp [intOf]; omega
    · have hke : k = raw.length := by omega
      subst hke
      have hfa : frameAll raw = ⟨many, fine, size, heads⟩ := by rw [HA.out, List.drop_length]; rfl
      have hff : frameF raw = if 1 < many then .error 50 else if fine = false then .error 50 else if 2000 < size then .error 5 else .ok (size, heads) := by unfold frameF; rw [hfa]
      have k9 := hF.blk.cell 9 (by omega)
      simp [RS.cells] at k9
      clear HA hfa
      by_cases h1 : 1 < many
      · rw [if_pos h1] at hff
        have d1 : decide ((1 : Int) < (many : Int)) = true := by simp; omega
        have HH := Lib.hid hff
        clear hff h1
        go_wp2_with (go_at_call 107; refine (HFe.out _ _ 50 hF.blk h0).mono ?_; rintro e w5 ⟨rfl, hR6⟩)
        go_ret
        rw [HH.out]
        exact ⟨rfl, _, hR6.blk, rfl, hF.low.trans (hR6.low (Nat.le_refl _) hF.blk.lt)⟩
      · rw [if_neg h1] at hff
        have d1 : decide ((1 : Int) < (many : Int)) = false := by simp; omega
        cases fine
        · rw [if_pos rfl] at hff
          have HH := Lib.hid hff
          clear hff h1
          go_wp2_with (go_at_call 107; refine (HFe.out _ _ 50 hF.blk h0).mono ?_; rintro e w5 ⟨rfl, hR6⟩)
          go_ret
          rw [HH.out]
          exact ⟨rfl, _, hR6.blk, rfl, hF.low.trans (hR6.low (Nat.le_refl _) hF.blk.lt)⟩
        · rw [if_neg (by simp)] at hff
          by_cases h2 : 2000 < size
          · rw [if_pos h2] at hff
            have d2 : decide ((2000 : Int) < size) = true := by simp; omega
            have HH := Lib.hid hff
            clear hff h1
            go_wp2_with (go_at_call 107; refine (HFe.out _ _ 5 hF.blk h0).mono ?_; rintro e w5 ⟨rfl, hR6⟩)
            go_ret
            rw [HH.out]
            exact ⟨rfl, _, hR6.blk, rfl, hF.low.trans (hR6.low (Nat.le_refl _) hF.blk.lt)⟩
          · rw [if_neg h2] at hff
            have d2 : decide ((2000 : Int) < size) = false := by simp; omega
            have HH := Lib.hid hff
            clear hff h1
            go_wp2
            go_ret
            rw [HH.out]
            exact ⟨rfl, hv, hF.blk, hF.own, hF.low⟩
end Go.Proofs.YtcognpibphpadaaGreatDoor
