/- http: the headers are read. -/
import Derived.Test.YtcognpibphpadaaGreatDoorZFirst
import Derived.Test.YtcognpibphpadaaGreatDoorZHds
import Derived.Deep.RegionLaw
import Derived.Deep.AppendLies
set_option linter.unusedVariables false
set_option linter.unusedSimpArgs false
namespace Go.Proofs.YtcognpibphpadaaGreatDoor
open Go.RowKit

theorem Rd.go {w w1 : World} {g : Nat} {s s1 : RS} {l : B} (h : Rd w g s l) (k : Low g w w1) (b : RBlk w1 g s1) (hA : s1.A = s.A) (hn : s1.n = s.n) (hc : s1.c = s.c) (ha : s1.at_ ≤ l.length) (he : s1.e = 0) : Rd w1 g s1 l :=
  ⟨b, hn.trans h.n, hA ▸ h.bytes.far k h.far, hA ▸ h.far, h.len, by rw [hn, hc]; exact h.cap, ha, he, h.glob.low k h.g, h.g⟩

def hcs (l : List Hd) : List Value := l.flatMap fun h => [.string (bs h.1), .string (bs h.2)]
theorem hcs_len (l : List Hd) : (hcs l).length = l.length * 2 := by
  induction l with
  | nil => rfl
  | cons h t ih => simp only [hcs, List.flatMap_cons, List.length_append, List.length_cons, List.length_nil] at ih ⊢; omega
theorem hcs_app (l : List Hd) (h : Hd) : hcs l ++ [.string (bs h.1), .string (bs h.2)] = hcs (l ++ [h]) := by simp [hcs]
theorem hcs_get : ∀ (l : List Hd) (j : Nat) (h : j < l.length), (hcs l)[j * 2]? = some (.string (bs l[j].1)) ∧ (hcs l)[j * 2 + 1]? = some (.string (bs l[j].2))
  | h :: t, 0, _ => ⟨rfl, rfl⟩
  | h :: t, j + 1, hj => by
    have ih := hcs_get t j (by simpa using hj)
    have e1 : (j + 1) * 2 = j * 2 + 1 + 1 := by omega
    rw [e1]
    exact ih
structure HOwn (w : World) (b : Nat) (v : Value) (l : List Hd) : Prop where
  out : w.ownsRow b 33 2 v l.length (hcs l)
theorem HOwn.nil (w : World) (b : Nat) : HOwn w b (.slice none 0 0) [] := ⟨World.ownsRow_nil w b 33 2⟩
theorem HOwn.slice {w : World} {b : Nat} {v : Value} {l : List Hd} (h : HOwn w b v l) : ∃ A c, v = .slice A l.length c ∧ l.length ≤ c ∧ Hds w A l ∧ ∀ ad, A = some ad → b ≤ ad.block ∧ ad.block < w.heap.size ∧ v.ownBlock = some ad.block := by
  have hc := fun (g : Nat) (hg : v.ownBlock = some g) => World.ownsRow.cells h.out (g := g) hg
  rcases h.out.2 with ⟨rfl, hn⟩ | ⟨g, cap, cur, rfl, hg, hb, hle, _, _, _⟩
  · exact ⟨none, 0, by rw [hn], by omega, ⟨fun j hj => by omega⟩, fun ad e => by cases e⟩
  · have hlt : g < w.heap.size := (Array.getElem?_eq_some_iff.1 hb).1
    refine ⟨_, cap, rfl, hle, ⟨fun j hj => ⟨_, rfl, ?_, ?_⟩⟩, fun ad e => by cases e; exact ⟨hg, hlt, rfl⟩⟩
    · exact hc g rfl _ _ (hcs_get l j hj).1
    · have := hc g rfl _ _ (hcs_get l j hj).2
      rw [add0] at this ⊢
      exact this
theorem HOwn.same {w w1 : World} {b : Nat} {v : Value} {l : List Hd} (h : HOwn w b v l) (hb : ∀ k, v.ownBlock = some k → w1.heap[k]? = w.heap[k]?) : HOwn w1 b v l := by
  refine ⟨h.out.1, ?_⟩
  rcases h.out.2 with hn | ⟨g, cap, cur, rfl, hg, hb', r⟩
  · exact .inl hn
  · exact .inr ⟨g, cap, cur, rfl, hg, (hb g rfl).trans hb', r⟩
theorem HOwn.low {w w1 : World} {b c : Nat} {v : Value} {l : List Hd} (h : HOwn w b v l) (hl : Low c w w1) (hc : w.heap.size ≤ c) : HOwn w1 b v l :=
  h.same fun k hk => hl.out.block k (Nat.lt_of_lt_of_le (h.out.lt k hk).2 hc)

theorem info33 : ∃ i z, Tryz.prog.info? 33 = some i ∧ i.zero = some z ∧ i.size = 2 ∧ i.bytes = 32 ∧ z.cells.size = 2 := by
  have h : (Tryz.prog.info? 33).map (fun i => (i.zero, i.size, i.bytes)) = some (some (.agg #[.string ⟨#[]⟩, .string ⟨#[]⟩]), 2, 32) := by kernel_rfl
  obtain ⟨i, hi, hh⟩ := Option.map_eq_some_iff.1 h
  simp only [Prod.mk.injEq] at hh
  exact ⟨i, _, hi, hh.1, hh.2.1, hh.2.2, by kernel_rfl⟩

/-- 'append(x, h)' of a header, as one step of a region that draws. -/
theorem step_head {w : World} {ops : Array Oper} {o : Oper} {a : Act} {K : Act → World → Prop} {Q : Exit → Act → World → Prop} {E : Prop} (b : Nat) (v : Value) (l : List Hd) (h : Hd) (H : Nat) (s x : Operand)
    (hown : HOwn w b v l) (hnew : w.heap[H]? = some (.cells #[.string (bs h.1), .string (bs h.2)] 33 (0, 0)))
    (hgd : o.guard = none) (ho : o.op = .call { callee := .builtin .append, args := #[s, x], argTypes := #[27, 27] }) (hs : a.eval s = v) (hx : a.eval x = .slice (some ⟨H, 0, none⟩) 1 1)
    (hl : l.length ≤ 100000) (hb : b ≤ w.heap.size)
    (h' : ∀ gg cap w', HOwn w' b (.slice (some ⟨gg, 0, none⟩) (l.length + 1) cap) (l ++ [h]) → w.grownBy w' v.ownBlock → (v.ownBlock = some gg ∨ gg = w.heap.size) → K (a.put o.dst (.slice (some ⟨gg, 0, none⟩) (l.length + 1) cap)) w') :
    if Region.wanted o (yielded ops a.tmps) = true then Oper.wp Tryz.prog o a w K Q else E := by
  obtain ⟨i, z, h1, h2, h3, h4, h5⟩ := info33
  refine step_append_lies w hgd s x 27 ho b 33 i z 2 32 Tryz.underlying27 h1 h2 h3 h4 h5 (by omega) v l.length (hcs l) hs hown.out ⟨H, 0, none⟩ 1 1 [.string (bs h.1), .string (bs h.2)] hx rfl
    (World.news_of_block hnew) (by simp [Value.oneCell']) (by omega) (by simp only [maxLen]; omega) (by omega) hb w.heap.size rfl ?_
  intro g' cap w' ho2 hg2 hat _
  refine h' _ _ w' ⟨?_⟩ hg2 hat
  rw [← hcs_app]; simpa using ho2

def headsF (l : B) : Nat → Nat → List Hd → Except Int (List Hd × Nat)
  | 0, _, _ => .error 0
  | n + 1, a, raw => match lineAt l a with
    | .error c => .error c
    | .ok (s, a') => if s.isEmpty = true then .ok (raw, a') else if raw.length = 20 then .error 4 else match lineH s with
      | none => .error 40
      | some h => headsF l n a' (raw ++ [h])
def rawLen (w : World) (g : Nat) : Nat := match w.cell? ⟨g, 8, none⟩ with
  | some (.slice _ n _) => n
  | _ => 0

def HTold (w w' : World) (g : Nat) (s : RS) (e : Ending) : Except Int (List Hd × Nat) → Prop
  | .ok (raw, a) => e = .returned (.bool true) ∧ ∃ rv, RBlk w' g { s with at_ := a, rv := rv } ∧ HOwn w' (g + 1) rv raw ∧ Low g w w'
  | .error c => e = .returned (.bool false) ∧ ∃ s', RBlk w' g s' ∧ s'.e = c ∧ Low g w w'
theorem lineAt_at {l : B} {a : Nat} {t : B} {x : Nat} (h : lineAt l a = .ok (t, x)) : x ≤ l.length := by
  unfold lineAt at h
  split at h
  · cases h
  · split at h
    · cases h
    · next e =>
      cases h
      unfold endsAt at e
      split at e
      · split at e
        · split at e
          · split at e
            · cases e; omega
            · cases e
          · cases e
        · cases e
      · cases e
set_option maxHeartbeats 8000000 in
set_option maxRecDepth 100000 in
theorem heads_calls (w : World) (g : Nat) (s : RS) (l : B) (h : Rd w g s l) (hrv : s.rv = .slice none 0 0) :
    Calls Tryz.prog 61 #[.pointer (some ⟨g, 0, none⟩)] w fun e w' => HTold w w' g s e (headsF l 21 s.at_ []) := by
  have HR := Lib.hid h
  have HFe := Lib.hid (fun (w1 : World) (s1 : RS) (c : Int) (hb : RBlk w1 g s1) (h0 : s1.e = 0) => fail_calls w1 g s1 c hb h0)
  have HLi := Lib.hid (fun (w1 : World) (s1 : RS) (h1 : Rd w1 g s1 l) => line_calls w1 g s1 l h1.blk h1.e h1.n h1.bytes h1.far h1.len h1.cap h1.at_ h1.glob.end0 h1.glob.end1 (by have := h1.g; omega))
  have HHL := Lib.hid headLine_calls
  have hglt := h.blk.lt
  have hlen := h.len
  clear h
  go_enter Tryz.func61, Tryz.ntmps61
  go_wp2
  go_loopw [2] (fun v wr => ∃ (a : Nat) (raw : List Hd) (rv : Value), v = .bool false ∧ a ≤ l.length ∧ raw.length ≤ 20 ∧ rawLen wr g = raw.length ∧ RBlk wr g { s with at_ := a, rv := rv } ∧ HOwn wr (g + 1) rv raw ∧ Low g w wr ∧ Hid (headsF l 21 s.at_ [] = headsF l (21 - raw.length) a raw)) (fun _ wr => 21 - rawLen wr g)
  case atStart =>
    refine ⟨s.at_, [], .slice none 0 0, rfl, HR.out.at_, by simp, ?_, ?_, HOwn.nil _ _, Low.refl _ _, Lib.hid rfl⟩
    · unfold rawLen
      rw [HR.out.blk.cell 8 (by omega)]
      simp [RS.cells, hrv]
    · rw [← hrv]; exact HR.out.blk
  case round =>
    obtain ⟨a, raw, rv, rfl, ha, hraw, hrl, hB, hO, hL, HE⟩ := hrel
    have hRd := HR.out.go hL hB rfl rfl rfl ha HR.out.e
    have hT := HLi.out wr _ hRd
    have hll := fun (t : B) (x : Nat) (e : lineAt l a = .ok (t, x)) => (⟨lineAt_len e, lineAt_at e⟩ : _ ∧ _)
    have hstep : headsF l (21 - raw.length) a raw = match lineAt l a with
      | .error c => .error c
      | .ok (s, a') => if s.isEmpty = true then .ok (raw, a') else if raw.length = 20 then .error 4 else match lineH s with
        | none => .error 40
        | some h => headsF l (20 - raw.length) a' (raw ++ [h]) := by
      rw [show 21 - raw.length = (20 - raw.length) + 1 by omega, headsF]
    have HE2 := Lib.hid (HE.out.trans hstep)
    clear hstep HE
    generalize lineAt l a = la at hT hll HE2
    have HT := Lib.hid hT
    clear hT
    obtain ⟨A, c, hrv2, hle, hHds, hA⟩ := hO.slice
    go_wp2_with fail
    refine HT.out.mono ?_
    rcases la with ce | ⟨t, a'⟩
    · rintro e w1 ⟨⟨x, rfl⟩, s', hR1, hs⟩
      go_wp2
      go_ret
      rw [HE2.out]
      exact ⟨rfl, s', hR1.blk, hs, hL.trans (hR1.low (Nat.le_refl _) hB.lt)⟩
    · rintro e w1 ⟨rfl, hR1⟩
      obtain ⟨ht, ha'⟩ := hll t a' rfl
      have hL1 := hL.trans (hR1.low (Nat.le_refl _) hB.lt)
      have hO1 : HOwn w1 (g + 1) rv raw := hO.same fun k hk => hR1.grown.block k (hO.out.lt k hk).2 (fun e => by have := (hO.out.lt k hk).1; injection e with e; omega)
      have HT2 := Lib.hid (bs_list t)
      have HE3 : headsF l 21 s.at_ [] = _ := HE2.out
      dsimp only at HE3
      cases t with
      | nil =>
        have hne : (bs ([] : B)).toList.isEmpty = true := by rw [bs_list]; rfl
        have HE4 := Lib.hid HE3
        clear HE3 HE2
        go_wp2
        go_ret
        rw [HE4.out]
        exact ⟨rfl, rv, hR1.blk, hO1, hL1⟩
      | cons x y =>
        have hne : (bs (x :: y)).toList.isEmpty = false := by rw [bs_list]; rfl
        rw [if_neg (by simp)] at HE3
        have c8 : w1.cell? ⟨g, 8, none⟩ = some (.slice A raw.length c) := by rw [hR1.blk.cell 8 (by omega)]; simp [RS.cells, hrv2]
        by_cases h20 : raw.length = 20
        · rw [if_pos h20] at HE3
          have HE4 := Lib.hid HE3
          have d20 : ((raw.length : Int) == 20) = true := by rw [beq_iff_eq]; omega
          clear HE3 HE2 h20
          go_wp2_with (go_at_call 107; refine (HFe.out _ _ 4 hR1.blk HR.out.e).mono ?_; rintro e w5 ⟨rfl, hR6⟩)
          go_ret
          rw [HE4.out]
          exact ⟨rfl, _, hR6.blk, rfl, hL1.trans (hR6.low (Nat.le_refl _) hR1.blk.lt)⟩
        · rw [if_neg h20] at HE3
          have HE4 := Lib.hid HE3
          have d20 : ((raw.length : Int) == 20) = false := by rw [beq_eq_false_iff_ne]; omega
          clear HE3 HE2
          have HHL := Lib.hid (HHL.out (bs (x :: y)) w1 (by rw [bs_size]; omega) (HR.out.glob.low hL1 HR.out.g))
          rw [bs_data] at HHL
          go_wp2_with fail
          refine HHL.out.mono ?_
          clear HHL
          cases hlh : lineH (x :: y) with
          | none =>
            rintro e w2 ⟨rfl, hl2⟩
            have hR2 := hR1.far hl2
            have HE5 : headsF l 21 s.at_ [] = .error 40 := by rw [HE4.out, hlh]
            have HE6 := Lib.hid HE5
            clear HE4 HE5 hlh
            simp only [lAns]
            have hR3 := hR2.alloc (.cells #[.string (bs []), .string (bs [])] 33)
            go_wp2_with (go_at_call 107; refine (HFe.out _ _ 40 hR3.blk HR.out.e).mono ?_; rintro e w5 ⟨rfl, hR6⟩)
            go_ret
            rw [HE6.out]
            exact ⟨rfl, _, hR6.blk, rfl, (hL.trans (hR3.low (Nat.le_refl _) hB.lt)).trans (hR6.low (Nat.le_refl _) hR3.blk.lt)⟩
          | some hd =>
            rintro e w2 ⟨rfl, hl2⟩
            have hR2 := hR1.far hl2
            have HE5 : headsF l 21 s.at_ [] = headsF l (20 - raw.length) a' (raw ++ [hd]) := by rw [HE4.out, hlh]
            have HE6 := Lib.hid HE5
            clear HE4 HE5 hlh
            obtain ⟨hn, hv⟩ := hd
            simp only [lAns]
            have hR3 := hR2.alloc (.cells #[.string (bs hn), .string (bs hv)] 33)
            have hB3 : HBlk (w2.alloc (.cells #[.string (bs hn), .string (bs hv)] 33)) w2.heap.size (bs hn) (bs hv) := ⟨heap_alloc_new w2 _⟩
            have hO3 := (hO1.low hl2 (Nat.le_refl _)).low ((Low.refl w2.heap.size w2).alloc (Nat.le_refl _) (.cells #[.string (bs hn), .string (bs hv)] 33)) (Nat.le_refl _)
            go_wp2
            obtain ⟨W, hW⟩ : ∃ W, W = w2.alloc (.cells #[.string (bs hn), .string (bs hv)] 33) := ⟨_, rfl⟩
            rw [← hW] at hR3 hB3 hO3 ⊢
            clear hW
            have k8 : W.cell? ⟨g, 8, none⟩ = some rv := by rw [hR3.blk.cell 8 (by omega)]; simp [RS.cells]
            have f8 := hR3.blk.free 8
            have b0 := hB3.c0
            have b1 := hB3.c1
            have u33 := Tryz.underlying33
            have hOW := fun o => (hO3.low ((Low.refl W.heap.size W).drew) (Nat.le_refl _)).low ((Low.refl W.drew.heap.size W.drew).alloc (Nat.le_refl _) o) (Nat.le_refl _)
            have hNW := heap_alloc_new W.drew (.cells #[.string (bs hn), .string (bs hv)] 33)
            have hbW : ∀ o, g + 1 ≤ (W.drew.alloc o).heap.size := fun o => by have := hR3.blk.lt; simp; omega
            have hgrv : some g ≠ rv.ownBlock := fun e => by have := (hO.out.lt g e.symm).1; omega
            have hBW : ∀ (o : Obj) (W1 : World), (W.drew.alloc o).grownBy W1 rv.ownBlock → RBlk W1 g { s with at_ := a', rv := rv } := fun o W1 hg1 => ⟨(hg1.block g (by have := hR3.blk.lt; simp; omega) hgrv).trans ((hR3.drew).alloc o).blk.out⟩
            have hHW := Lib.hid (World.size_drew W)
            have kk8 : (W.alloc (.cells #[.string (bs hn), .string (bs hv)] 33)).cell? ⟨g, 8, none⟩ = some rv := by rw [(hR3.alloc _).blk.cell 8 (by omega)]; simp [RS.cells]
            have hB4 := hB3.low ((Low.refl W.heap.size W).alloc (Nat.le_refl _) (.cells #[.string (bs hn), .string (bs hv)] 33)) hB3.lt
            have bb0 := hB4.c0
            have bb1 := hB4.c1
            go_region_law (refine step_head (g + 1) rv raw (hn, hv) W.heap.size (.tmp 41) (.tmp 43) (hOW _) hNW rfl rfl (by simp [Act.eval, Act.put, hrv2]) (by simp [Act.eval, Act.put]) (by omega) (hbW _) ?_; intro gg cap W1 ho1 hg1 hat1; have cc8 := (hBW _ _ hg1).cell 8 (by omega); have ff8 := (hBW _ _ hg1).free 8; simp [RS.cells] at cc8)
            all_goals
              go_wp2
              have hB9 := (hBW _ _ hg1)
              have hgl : Low g (W.drew.alloc (.cells #[.string (bs hn), .string (bs hv)] 33)) W1 := ⟨⟨hg1.os, hg1.tape, hg1.output, hg1.size, fun k hk => hg1.block k (by have := hR3.blk.lt; simp; omega) (fun e => by have := (hO.out.lt k e.symm).1; omega)⟩⟩
              have hL3 : Low g w W := hL.trans (hR3.low (Nat.le_refl _) hB.lt)
              have hL4 : Low g w W1 := ((hL3.drew).alloc (by have := hR3.blk.lt; simp; omega) _).trans hgl
              have hB10 := (RTo.refl hB9).set (s2 := { s with at_ := a', rv := .slice (some ⟨gg, 0, none⟩) (raw.length + 1) cap }) 8 (.slice (some ⟨gg, 0, none⟩) (raw.length + 1) cap) (by simp [RS.cells])
              have hrl2 : rawLen (W1.setCell ⟨g, 8, none⟩ (.slice (some ⟨gg, 0, none⟩) (raw.length + 1) cap)) g = raw.length + 1 := by
                unfold rawLen
                rw [hB10.blk.cell 8 (by omega)]
                simp [RS.cells]
              refine ⟨⟨a', raw ++ [(hn, hv)], .slice (some ⟨gg, 0, none⟩) (raw.length + 1) cap, rfl, ha', by simp; omega, by rw [hrl2]; simp, hB10.blk, ?_, ?_, Lib.hid ?_⟩, ?_⟩
              · exact ho1.same fun k hk => Below.heap_setCell W1 _ _ k (fun e => by have := (ho1.out.lt k hk).1; simp at e; omega)
              · exact hL4.setCell (Nat.le_refl _) _
              · rw [HE6.out]; simp
              · rw [hrl2, hrl]; omega
end Go.Proofs.YtcognpibphpadaaGreatDoor
