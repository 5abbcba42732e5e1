/- The law's messages out of seeds. -/
import Derived.Test.YtcognpibphpadaaGreatDoorZLawb
import Derived.Deep.RegionHeld3
set_option linter.unusedVariables false
set_option linter.unusedSimpArgs false
namespace Go.Proofs.YtcognpibphpadaaGreatDoor
open Go.RowKit

structure SBlk (w : World) (S : Nat) (x : Sd) (VA BA : Option Addr) (vc bc : Nat) : Prop where
  out : w.heap[S]? = some (.cells #[.int .i64 x.me, .int .i64 x.st, .string (bs x.pa), .string (bs x.host), .slice VA x.vals.length vc, .slice BA x.body.length bc] 25 (0, 0))
theorem SBlk.cell {w : World} {S : Nat} {x : Sd} {VA BA : Option Addr} {vc bc : Nat} (h : SBlk w S x VA BA vc bc) (k : Nat) : w.cell? ⟨S, k, none⟩ = (#[Value.int .i64 x.me, Value.int .i64 x.st, Value.string (bs x.pa), Value.string (bs x.host), Value.slice VA x.vals.length vc, Value.slice BA x.body.length bc] : Array Value)[k]? := cell_of_row w S k _ _ _ h.out
theorem SBlk.low {w w1 : World} {S b : Nat} {x : Sd} {VA BA : Option Addr} {vc bc : Nat} (h : SBlk w S x VA BA vc bc) (hl : Low b w w1) (hb : S < b) : SBlk w1 S x VA BA vc bc := ⟨(hl.out.block S hb).trans h.out⟩
theorem SBlk.lt {w : World} {S : Nat} {x : Sd} {VA BA : Option Addr} {vc bc : Nat} (h : SBlk w S x VA BA vc bc) : S < w.heap.size := (Array.getElem?_eq_some_iff.1 h.out).1
theorem slice_to (ad : Option Addr) (n c k : Nat) (hk : k ≤ c) (W : World) : (Instr.slice 23 (.slice ad n c) none (some (.int .i64 (k : Int))) none).run Tryz.prog W = .ok (.slice ad k c) W := by
  have he : Tryz.prog.elem 23 = 5 := by simp [Program.elem, Tryz.underlying23]
  rw [run_slice_h (P := Tryz.prog) W 23 ad n c (by rw [he]; exact Tryz.underlying23) .i64 (k : Int) (by omega) (by omega), he, size5]
  simp only [Result.andThen_ok, sliced, Int.toNat_natCast]
  have ha : (ad.map fun x => x.add (0 * 1)) = ad := by
    cases ad with
    | none => rfl
    | some a => obtain ⟨x, y, z⟩ := a; simp [Addr.add]
  rw [ha]
  simp
theorem Strs.low {w w1 : World} {A : Option Addr} {xs : List B} (h : Strs w A xs) {b : Nat} (hl : Low b w w1) (hb : w.heap.size ≤ b) : Strs w1 A xs := ⟨fun j hj => by
  obtain ⟨ad, e, hc⟩ := h.out j hj
  exact ⟨ad, e, (hl.cell (p := ad.add j) (Nat.lt_of_lt_of_le (World.block_lt_of_cell? w _ hc) hb)).trans hc⟩⟩
theorem mets_at (n : Int) : ∃ h : (n % 6).toNat < mets.length, metOf n = mets[(n % 6).toNat] := by
  have h0 : 0 ≤ n % 6 := Int.emod_nonneg _ (by decide)
  have h6 : n % 6 < 6 := Int.emod_lt_of_pos _ (by decide)
  have h : (n % 6).toNat < mets.length := by show _ < 6; omega
  exact ⟨h, by unfold metOf; rw [List.getD_eq_getElem?_getD, List.getElem?_eq_getElem h]; rfl⟩

/-- The message while it is made: its block 'Bm', its body, its headers so far. -/
structure MSt (w wx : World) (x : Sd) (VA BA : Option Addr) (vc bc : Nat) (Bm : Nat) (me pa : ByteArray) (st : Int) (hv : Value) (hs : List Hd) (A2 : Option Addr) (c2 : Nat) (body : B) : Prop where
  seed : SBlk wx w.heap.size x VA BA vc bc
  res : ZRow wx (w.heap.size + 1) ⟨#[]⟩ ⟨#[]⟩ 0 (.slice none 0 0) (.slice none 0 0)
  msg : ZRow wx Bm me pa st hv (.slice A2 body.length c2)
  bm : w.heap.size + 1 < Bm
  bown : BOwn wx (w.heap.size + 2) (.slice A2 body.length c2) body
  heads : HOwn wx (w.heap.size + 2) hv hs
  nb : (Value.slice A2 body.length c2).ownBlock ≠ some Bm
  nh : hv.ownBlock ≠ some Bm
  dis : ∀ k, hv.ownBlock = some k → (Value.slice A2 body.length c2).ownBlock ≠ some k
  low : Low w.heap.size w wx
theorem ZRow.lt {w : World} {R : Nat} {me pa : ByteArray} {st : Int} {hv bv : Value} (h : ZRow w R me pa st hv bv) : R < w.heap.size := (Array.getElem?_eq_some_iff.1 h.out).1

theorem BOwn.weak {w : World} {b b' : Nat} {v : Value} {l : B} (h : BOwn w b v l) (hb : b' ≤ b) : BOwn w b' v l := by
  refine ⟨h.out.1, ?_⟩
  rcases h.out.2 with hn | ⟨g, cap, cur, rfl, hg, r⟩
  · exact .inl hn
  · exact .inr ⟨g, cap, cur, rfl, Nat.le_trans hb hg, r⟩
theorem HOwn.weak {w : World} {b b' : Nat} {v : Value} {l : List Hd} (h : HOwn w b v l) (hb : b' ≤ b) : HOwn w b' v l := by
  refine ⟨h.out.1, ?_⟩
  rcases h.out.2 with hn | ⟨g, cap, cur, rfl, hg, r⟩
  · exact .inl hn
  · exact .inr ⟨g, cap, cur, rfl, Nat.le_trans hb hg, r⟩
theorem mst_after {w W w2 : World} {x : Sd} {VA BA : Option Addr} {vc bc : Nat} {me : ByteArray} {A2 : Option Addr} {c2 b k : Nat} {body : B} (hk : k = body.length) (hS : SBlk W w.heap.size x VA BA vc bc) (hR : ZRow W (w.heap.size + 1) ⟨#[]⟩ ⟨#[]⟩ 0 (.slice none 0 0) (.slice none 0 0))
    (hzW : W.heap.size = w.heap.size + 3) (hLW : Low w.heap.size w W) (hl : Low W.heap.size W w2) (ho : BOwn w2 b (.slice A2 body.length c2) body) (hb : w.heap.size + 2 ≤ b) :
    MSt w (w2.alloc (.cells #[.string me, .string ⟨#[]⟩, .int .i64 0, .slice none 0 0, .slice A2 k c2] 29)) x VA BA vc bc w2.heap.size me ⟨#[]⟩ 0 (.slice none 0 0) [] A2 c2 body := by
  subst hk
  have hz2 := hl.size
  have ha := (Low.refl w2.heap.size w2).alloc (Nat.le_refl _) (.cells #[.string me, .string ⟨#[]⟩, .int .i64 0, .slice none 0 0, .slice A2 body.length c2] 29)
  refine ⟨(hS.low hl (by omega)).low ha (by omega), (hR.low hl (by omega)).low ha (by omega), ⟨heap_alloc_new w2 _⟩, by omega, (ho.low ha (Nat.le_refl _)).weak hb, HOwn.nil _ _, fun e => ?_, fun e => (by cases e), fun k e => (by cases e), (hLW.trans (hl.mono (by omega))).trans (ha.mono (by omega))⟩
  have := (ho.out.lt _ e).2
  omega
theorem mst_before {w W w2 : World} {x : Sd} {VA BA : Option Addr} {vc bc : Nat} {me : ByteArray} {A2 : Option Addr} {c2 b k R : Nat} {body : B} (hk : k = body.length) (hS : SBlk W w.heap.size x VA BA vc bc) (hR : ZRow W (w.heap.size + 1) ⟨#[]⟩ ⟨#[]⟩ 0 (.slice none 0 0) (.slice none 0 0))
    (hzW : W.heap.size = w.heap.size + 3) (hLW : Low w.heap.size w W) (hl : Low W.heap.size W w2) (ho : BOwn w2 b (.slice A2 body.length c2) body) (hb : w.heap.size + 2 ≤ b) (hRb : w.heap.size + 1 < R) (hne : (Value.slice A2 body.length c2).ownBlock ≠ some R) (hZ : ZRow w2 R ⟨#[]⟩ ⟨#[]⟩ 0 (.slice none 0 0) (.slice none 0 0)) :
    MSt w (((((w2.setCell ⟨R, 0, none⟩ (.string me)).setCell ⟨R, 1, none⟩ (.string ⟨#[]⟩)).setCell ⟨R, 2, none⟩ (.int .i64 0)).setCell ⟨R, 3, none⟩ (.slice none 0 0)).setCell ⟨R, 4, none⟩ (.slice A2 k c2)) x VA BA vc bc R me ⟨#[]⟩ 0 (.slice none 0 0) [] A2 c2 body := by
  subst hk
  have hz2 := hl.size
  have hs := ZRow.low5 (w := w2) (R := R) (Low.refl _ w2) (.string me) (.string ⟨#[]⟩) (.int .i64 0) (.slice none 0 0) (.slice A2 body.length c2)
  have hn : ∀ j, j ≠ R → (((((w2.setCell ⟨R, 0, none⟩ (.string me)).setCell ⟨R, 1, none⟩ (.string ⟨#[]⟩)).setCell ⟨R, 2, none⟩ (.int .i64 0)).setCell ⟨R, 3, none⟩ (.slice none 0 0)).setCell ⟨R, 4, none⟩ (.slice A2 body.length c2)).heap[j]? = w2.heap[j]? := fun j hj => by
    have h1 : ∀ (w : World) (k : Nat) (v : Value), (w.setCell ⟨R, k, none⟩ v).heap[j]? = w.heap[j]? := fun w k v => Below.heap_setCell w _ _ j (fun e => hj (by simpa using e))
    rw [h1, h1, h1, h1, h1]
  refine ⟨(hS.low hl (by omega)).low hs (by omega), (hR.low hl (by omega)).low hs (by omega), hZ.to, by omega, ?_, HOwn.nil _ _, hne, fun e => (by cases e), fun k e => (by cases e), (hLW.trans (hl.mono (by omega))).trans (hs.mono (by omega))⟩
  exact (ho.same fun j hj => hn j (fun e => hne (e ▸ hj))).weak (by omega)
theorem own_ne {w : World} {b : Nat} {v : Value} {l : B} {R : Nat} (h : BOwn w b v l) (hR : R < b ∨ w.heap.size ≤ R) : v.ownBlock ≠ some R := fun e => by
  have := h.out.lt R e
  omega
theorem low_set5 {w w1 : World} {b R : Nat} {v0 v1 v2 v3 v4 : Value} (h : Low b w w1) (hR : b ≤ R) : Low b w (((((w1.setCell ⟨R, 0, none⟩ v0).setCell ⟨R, 1, none⟩ v1).setCell ⟨R, 2, none⟩ v2).setCell ⟨R, 3, none⟩ v3).setCell ⟨R, 4, none⟩ v4) :=
  ((((h.setCell hR _).setCell hR _).setCell hR _).setCell hR _).setCell hR _
theorem MSt.far {w wx w1 : World} {x : Sd} {VA BA : Option Addr} {vc bc Bm : Nat} {me pa : ByteArray} {st : Int} {hv : Value} {hs : List Hd} {A2 : Option Addr} {c2 : Nat} {body : B} (h : MSt w wx x VA BA vc bc Bm me pa st hv hs A2 c2 body) (hl : Low wx.heap.size wx w1) : MSt w w1 x VA BA vc bc Bm me pa st hv hs A2 c2 body :=
  ⟨h.seed.low hl h.seed.lt, h.res.low hl h.res.lt, h.msg.low hl h.msg.lt, h.bm, h.bown.low hl (Nat.le_refl _), h.heads.low hl (Nat.le_refl _), h.nb, h.nh, h.dis, h.low.trans (hl.mono h.low.size)⟩
theorem ZRow.set1 {w : World} {R : Nat} {me pa pa' : ByteArray} {st : Int} {hv bv : Value} (h : ZRow w R me pa st hv bv) : ZRow (w.setCell ⟨R, 1, none⟩ (.string pa')) R me pa' st hv bv := ⟨heap_setCell_same w R 1 _ _ (.string pa') h.out⟩
theorem ZRow.set2 {w : World} {R : Nat} {me pa : ByteArray} {st st' : Int} {hv bv : Value} (h : ZRow w R me pa st hv bv) : ZRow (w.setCell ⟨R, 2, none⟩ (.int .i64 st')) R me pa st' hv bv := ⟨heap_setCell_same w R 2 _ _ (.int .i64 st') h.out⟩
theorem ZRow.set3 {w : World} {R : Nat} {me pa : ByteArray} {st : Int} {hv hv' bv : Value} (h : ZRow w R me pa st hv bv) : ZRow (w.setCell ⟨R, 3, none⟩ hv') R me pa st hv' bv := ⟨heap_setCell_same w R 3 _ _ hv' h.out⟩
theorem heap_set_ne (w : World) (Bm k : Nat) (v : Value) (j : Nat) (hj : j ≠ Bm) : (w.setCell ⟨Bm, k, none⟩ v).heap[j]? = w.heap[j]? := Below.heap_setCell w _ _ j (fun e => hj (by simpa using e))
theorem MSt.put {w wx : World} {x : Sd} {VA BA : Option Addr} {vc bc Bm : Nat} {me pa me' pa' : ByteArray} {st st' : Int} {hv : Value} {hs : List Hd} {A2 : Option Addr} {c2 : Nat} {body : B} (h : MSt w wx x VA BA vc bc Bm me pa st hv hs A2 c2 body) (k : Nat) (v : Value)
    (hm : ZRow (wx.setCell ⟨Bm, k, none⟩ v) Bm me' pa' st' hv (.slice A2 body.length c2)) : MSt w (wx.setCell ⟨Bm, k, none⟩ v) x VA BA vc bc Bm me' pa' st' hv hs A2 c2 body := by
  have hb := h.bm
  refine ⟨⟨(heap_set_ne wx Bm k v _ (by omega)).trans h.seed.out⟩, ⟨(heap_set_ne wx Bm k v _ (by omega)).trans h.res.out⟩, hm, h.bm, h.bown.same fun j hj => heap_set_ne wx Bm k v j (fun e => h.nb (e ▸ hj)), h.heads.same fun j hj => heap_set_ne wx Bm k v j (fun e => h.nh (e ▸ hj)), h.nb, h.nh, h.dis, ?_⟩
  exact h.low.trans ((Low.refl w.heap.size wx).setCell (by show w.heap.size ≤ Bm; omega) _)
theorem MSt.row {w wx W1 : World} {x : Sd} {VA BA : Option Addr} {vc bc Bm : Nat} {me pa : ByteArray} {st : Int} {hv : Value} {hs : List Hd} {A2 : Option Addr} {c2 : Nat} {body : B} (h : MSt w wx x VA BA vc bc Bm me pa st hv hs A2 c2 body)
    (hg : wx.grownBy W1 hv.ownBlock) : ZRow W1 Bm me pa st hv (.slice A2 body.length c2) :=
  ⟨(hg.block Bm h.msg.lt (fun e => h.nh e.symm)).trans h.msg.out⟩
theorem MSt.room {w wx : World} {x : Sd} {VA BA : Option Addr} {vc bc Bm : Nat} {me pa : ByteArray} {st : Int} {hv : Value} {hs : List Hd} {A2 : Option Addr} {c2 : Nat} {body : B} (h : MSt w wx x VA BA vc bc Bm me pa st hv hs A2 c2 body) : w.heap.size + 2 ≤ wx.heap.size := by
  have := h.bm
  have := h.msg.lt
  omega
/-- What region 10 reads besides the headers. -/
theorem MSt.two {w wx : World} {x : Sd} {VA BA : Option Addr} {vc bc Bm : Nat} {me pa : ByteArray} {st : Int} {hv : Value} {hs : List Hd} {A2 : Option Addr} {c2 : Nat} {body : B} (h : MSt w wx x VA BA vc bc Bm me pa st hv hs A2 c2 body) {p : Addr} {v : Value} (hp : w.cell? p = some v) :
    wx.cell? ⟨w.heap.size, 4, none⟩ = some (.slice VA x.vals.length vc) ∧ wx.cell? p = some v := ⟨h.seed.cell 4, (h.low.cell (World.block_lt_of_cell? w _ hp)).trans hp⟩
theorem MSt.two1 {w wx W1 : World} {x : Sd} {VA BA : Option Addr} {vc bc Bm : Nat} {me pa : ByteArray} {st : Int} {hv : Value} {hs : List Hd} {A2 : Option Addr} {c2 : Nat} {body : B} (h : MSt w wx x VA BA vc bc Bm me pa st hv hs A2 c2 body) (hg : wx.grownBy W1 hv.ownBlock) {p : Addr} {v : Value} (hp : w.cell? p = some v) :
    W1.cell? ⟨w.heap.size, 4, none⟩ = some (.slice VA x.vals.length vc) ∧ W1.cell? p = some v := by
  have hlow : ∀ k, hv.ownBlock = some k → w.heap.size + 2 ≤ k := fun k hk => (h.heads.out.lt k hk).1
  have hpl := World.block_lt_of_cell? w _ hp
  obtain ⟨h1, h2⟩ := h.two hp
  have e : ∀ a : Addr, a.block < w.heap.size + 2 → a.block < wx.heap.size → W1.cell? a = wx.cell? a := fun a ha hb => World.cell?_of_block (hg.block a.block hb (fun e => by have := hlow _ e.symm; omega))
  exact ⟨(e _ (by show w.heap.size < _; omega) h.seed.lt).trans h1, (e p (by omega) (Nat.lt_of_lt_of_le hpl h.low.size)).trans h2⟩
theorem row_two (w : World) (a b : Array Value) (s t : TypeId) : ((w.alloc (.cells a s)).alloc (.cells b t)).heap[w.heap.size + 1]? = some (.cells b t (0, 0)) := by
  have := heap_alloc_new (w.alloc (.cells a s)) (.cells b t)
  simpa using this
theorem one_cat (c : UInt8) (l : B) : (⟨#[c]⟩ : ByteArray) ++ bs l = bs (c :: l) := by
  apply ByteArray.ext
  simp [bs, ByteArray.data_append]
theorem byte_conv {w : World} {g : Nat} {c : UInt8} {v : Int} (hv : v = (c.toNat : Int)) (h : w.heap[g]? = some (.cells #[.int .u8 v] 5 (0, 0))) : (convert 23 9 (.slice (some ⟨g, 0, none⟩) 1 1)).run Tryz.prog w = .ok (.string (bs [c])) w := by
  subst hv
  have hb : Bts w (some ⟨g, 0, none⟩) [c] := ⟨fun j hj => ⟨_, rfl, by
    have : j = 0 := by simpa using hj
    subst this
    rw [add0]
    show w.cell? ⟨g, 0, none⟩ = some (.int .u8 (c.toNat : Int))
    rw [cell_of_row w g 0 _ _ _ h]; rfl⟩⟩
  exact hb.conv 1
theorem x_cat (j : Nat) : (⟨#[88, 45]⟩ : ByteArray) ++ bs [UInt8.ofNat (97 + j)] = bs (xName j) := by
  apply ByteArray.ext
  simp [bs, ByteArray.data_append, xName]
theorem vHeads_at : ∀ (vs : List B) (i j : Nat) (h : j < vs.length), i + j < 12 → (vHeads i vs)[j]? = some (xName (i + j), cleanF 200 false [] vs[j])
  | [], i, j, h, _ => by cases h
  | v :: t, i, 0, h, hi => by rw [vHeads, if_pos (by omega)]; rfl
  | v :: t, i, j + 1, h, hi => by
    rw [vHeads, if_pos (by omega), List.getElem?_cons_succ, vHeads_at t (i + 1) j (by simpa using h) (by omega)]
    have e : i + 1 + j = i + (j + 1) := by omega
    rw [e]; rfl
theorem vHeads_length : ∀ (vs : List B) (i : Nat), (vHeads i vs).length = min (12 - i) vs.length
  | [], i => by simp [vHeads]
  | v :: t, i => by
    rw [vHeads]
    split
    · simp only [List.length_cons, vHeads_length t (i + 1)]; omega
    · simp; omega
/-- The headers grow. -/
theorem MSt.grow {w wx W1 : World} {x : Sd} {VA BA : Option Addr} {vc bc Bm : Nat} {me pa : ByteArray} {st : Int} {hv : Value} {hs hs' : List Hd} {A2 : Option Addr} {c2 gg n cap : Nat} {body : B} (h : MSt w wx x VA BA vc bc Bm me pa st hv hs A2 c2 body)
    (hg : wx.grownBy W1 hv.ownBlock) (ho : HOwn W1 (w.heap.size + 2) (.slice (some ⟨gg, 0, none⟩) n cap) hs') (hat : hv.ownBlock = some gg ∨ gg = wx.heap.size) :
    MSt w (W1.setCell ⟨Bm, 3, none⟩ (.slice (some ⟨gg, 0, none⟩) n cap)) x VA BA vc bc Bm me pa st (.slice (some ⟨gg, 0, none⟩) n cap) hs' A2 c2 body := by
  have hb := h.bm
  have hbl : ∀ j, j < wx.heap.size → (∀ k, hv.ownBlock = some k → k ≠ j) → W1.heap[j]? = wx.heap[j]? := fun j hj hne => hg.block j hj (fun e => hne j e.symm rfl)
  have hlow : ∀ k, hv.ownBlock = some k → w.heap.size + 2 ≤ k := fun k hk => (h.heads.out.lt k hk).1
  have hngg : gg ≠ Bm := by
    rcases hat with e | e
    · exact fun e2 => h.nh (e2 ▸ e)
    · have := h.msg.lt; omega
  have e1 : ∀ j, j < wx.heap.size → j ≠ Bm → (∀ k, hv.ownBlock = some k → k ≠ j) → (W1.setCell ⟨Bm, 3, none⟩ (.slice (some ⟨gg, 0, none⟩) n cap)).heap[j]? = wx.heap[j]? := fun j hj hne hk => (heap_set_ne W1 Bm 3 _ j hne).trans (hbl j hj hk)
  have hms : W1.heap[Bm]? = wx.heap[Bm]? := hbl Bm h.msg.lt (fun k hk e => h.nh (e ▸ hk))
  refine ⟨⟨(e1 _ h.seed.lt (by omega) (fun k hk => by have := hlow k hk; omega)).trans h.seed.out⟩, ⟨(e1 _ h.res.lt (by omega) (fun k hk => by have := hlow k hk; omega)).trans h.res.out⟩, ZRow.set3 (hv := hv) ⟨hms.trans h.msg.out⟩, h.bm, ?_, ?_, h.nb, ?_, ?_, ?_⟩
  · exact h.bown.same fun j hj => e1 j (h.bown.out.lt j hj).2 (fun e => h.nb (e ▸ hj)) (fun k hk e => h.dis k hk (e ▸ hj))
  · exact ho.same fun j hj => heap_set_ne W1 Bm 3 _ j (fun e => by
      have : gg = j := by simpa [Value.ownBlock] using hj
      omega)
  · intro e
    have : gg = Bm := by simpa [Value.ownBlock] using e
    exact hngg this
  · intro k hk e
    have hkg : gg = k := by simpa [Value.ownBlock] using hk
    subst hkg
    rcases hat with e2 | e2
    · exact h.dis _ e2 e
    · have := (h.bown.out.lt _ e).2
      omega
  · have hl : Low w.heap.size wx W1 := ⟨⟨hg.os, hg.tape, hg.output, hg.size, fun k hk => hbl k (Nat.lt_of_lt_of_le hk h.low.size) (fun j hj => by have := hlow j hj; omega)⟩⟩
    exact (h.low.trans hl).setCell (by show w.heap.size ≤ Bm; omega) _

set_option maxHeartbeats 8000000 in
set_option maxRecDepth 100000 in
theorem made_calls (x : Sd) (VA BA : Option Addr) (vc bc : Nat) (w : World) (hv : Strs w VA x.vals) (hb : Bts w BA x.body) (hbc : x.body.length ≤ bc)
    (hpa : x.pa.length ≤ 1048576) (hho : x.host.length ≤ 1048576) (hvl : ∀ v ∈ x.vals, v.length ≤ 1048576) (hvn : x.vals.length ≤ 1048576) (hbn : x.body.length ≤ 1048576) :
    Calls Tryz.prog 11 #[.agg #[.int .i64 x.me, .int .i64 x.st, .string (bs x.pa), .string (bs x.host), .slice VA x.vals.length vc, .slice BA x.body.length bc]] w fun e w' =>
      ∃ hA hc bA bc, e = .returned (.agg #[.string (bs (madeM x).me), .string (bs (madeM x).pa), .int .i64 (madeM x).st, .slice hA (madeM x).hs.length hc, .slice bA (madeM x).body.length bc]) ∧ Low w.heap.size w w' ∧
        HOwn w' w.heap.size (.slice hA (madeM x).hs.length hc) (madeM x).hs ∧ BOwn w' w.heap.size (.slice bA (madeM x).body.length bc) (madeM x).body := by
  have hm0 : 0 ≤ x.me % 6 := Int.emod_nonneg _ (by decide)
  have hm6 : x.me % 6 < 6 := Int.emod_lt_of_pos _ (by decide)
  have HBr := Lib.hid (fun w => bring_calls x.me 6 w (by decide) (by decide))
  obtain ⟨hmi, hme⟩ := mets_at x.me
  have hnat : ((x.me % 6).toNat : Int) = x.me % 6 := by omega
  obtain ⟨W, hW⟩ : ∃ W, W = ((w.alloc (.cells #[.int .i64 x.me, .int .i64 x.st, .string (bs x.pa), .string (bs x.host), .slice VA x.vals.length vc, .slice BA x.body.length bc] 25)).alloc (.cells #[.string ⟨#[]⟩, .string ⟨#[]⟩, .int .i64 0, .slice none 0 0, .slice none 0 0] 29)).alloc (.cells (mets.map fun x => Value.string (bs x)).toArray 9) := ⟨_, rfl⟩
  have hl1 := (Low.refl w.heap.size w).alloc (Nat.le_refl _) (.cells #[.int .i64 x.me, .int .i64 x.st, .string (bs x.pa), .string (bs x.host), .slice VA x.vals.length vc, .slice BA x.body.length bc] 25)
  have hLW : Low w.heap.size w W := by rw [hW]; exact (hl1.alloc hl1.size _).alloc (Nat.le_trans hl1.size (by simp)) _
  have hzW : W.heap.size = w.heap.size + 3 := by rw [hW]; simp
  have hS : SBlk W w.heap.size x VA BA vc bc := by
    rw [hW]
    exact SBlk.low (b := w.heap.size + 1) ⟨heap_alloc_new w _⟩ (((Low.refl _ _).alloc (by simp) _).alloc (by simp) _) (Nat.lt_succ_self _)
  have hR : ZRow W (w.heap.size + 1) ⟨#[]⟩ ⟨#[]⟩ 0 (.slice none 0 0) (.slice none 0 0) := by
    rw [hW]
    refine ZRow.low (b := w.heap.size + 2) ⟨?_⟩ ((Low.refl _ _).alloc (by simp) _) (by omega)
    have := heap_alloc_new (w.alloc (.cells #[.int .i64 x.me, .int .i64 x.st, .string (bs x.pa), .string (bs x.host), .slice VA x.vals.length vc, .slice BA x.body.length bc] 25)) (.cells #[.string ⟨#[]⟩, .string ⟨#[]⟩, .int .i64 0, .slice none 0 0, .slice none 0 0] 29)
    simpa using this
  have hM : Strs W (some ⟨w.heap.size + 1 + 1, 0, none⟩) mets := by
    rw [hW]
    have := strs_new ((w.alloc (.cells #[.int .i64 x.me, .int .i64 x.st, .string (bs x.pa), .string (bs x.host), .slice VA x.vals.length vc, .slice BA x.body.length bc] 25)).alloc (.cells #[.string ⟨#[]⟩, .string ⟨#[]⟩, .int .i64 0, .slice none 0 0, .slice none 0 0] 29)) mets _ rfl
    simpa using this
  obtain ⟨k, hk⟩ : ∃ k, k = min x.body.length 2000 := ⟨_, rfl⟩
  have hsl := slice_to BA x.body.length bc k (by omega)
  have hbk : Bts W BA (x.body.take k) := ⟨fun j hj => by
    obtain ⟨ad, e, hc⟩ := (hb.low hLW (Nat.le_refl _)).out j (by simp at hj; omega)
    exact ⟨ad, e, by rw [hc, List.getElem_take]⟩⟩
  have hkl : (x.body.take k).length = k := by simp; omega
  have HCp := Lib.hid (fun (w1 : World) (h : Low W.heap.size W w1) => copy_calls BA (x.body.take k) bc w1 (hbk.low h (Nat.le_refl _)) (by omega))
  simp only [hkl] at HCp
  have hWW : ((w.alloc (.cells #[.int .i64 x.me, .int .i64 x.st, .string (bs x.pa), .string (bs x.host), .slice VA x.vals.length vc, .slice BA x.body.length bc] 25)).alloc (.cells #[.string ⟨#[]⟩, .string ⟨#[]⟩, .int .i64 0, .slice none 0 0, .slice none 0 0] 29)).alloc (.cells #[.string ⟨#[71, 69, 84]⟩, .string ⟨#[80, 85, 84]⟩, .string ⟨#[80, 79, 83, 84]⟩, .string ⟨#[68, 69, 76, 69, 84, 69]⟩, .string ⟨#[72, 69, 65, 68]⟩, .string ⟨#[]⟩] 9) = W := hW.symm
  clear hW
  go_enter Tryz.func11, Tryz.ntmps11
  go_wp2
  clear hWW
  have s0 := hS.cell 0
  have s5 := hS.cell 5
  obtain ⟨adm, hadm, hm⟩ := hM.out (x.me % 6).toNat hmi
  cases hadm
  rw [add0, ← hme] at hm
  simp at s0 s5
  have hd6 : decide (x.me % 6 < 6) = true := by simp; omega
  have hkm : min (x.body.length : Int) 2000 = (k : Int) := by omega
  have hkb : k ≤ bc := by omega
  have hkx := Lib.hid hk
  clear hk hme hl1
  have hA1 : Low W.heap.size W (W.alloc (.cells #[.string ⟨#[]⟩, .string ⟨#[]⟩, .int .i64 0, .slice none 0 0, .slice none 0 0] 29)).drew := ((Low.refl _ _).alloc (Nat.le_refl _) _).drew
  have hA0 : Low W.heap.size W W.drew := (Low.refl _ _).drew
  have hZA : ZRow (W.alloc (.cells #[.string ⟨#[]⟩, .string ⟨#[]⟩, .int .i64 0, .slice none 0 0, .slice none 0 0] 29)).drew W.heap.size ⟨#[]⟩ ⟨#[]⟩ 0 (.slice none 0 0) (.slice none 0 0) := ⟨heap_alloc_new W _⟩
  have hzA : (W.alloc (.cells #[.string ⟨#[]⟩, .string ⟨#[]⟩, .int .i64 0, .slice none 0 0, .slice none 0 0] 29)).drew.heap.size = w.heap.size + 4 := by simp [hzW]
  have hF0 := Lib.hid (fun (w2 : World) (h : Low W.drew.heap.size W.drew w2) => hA0.trans (h.mono hA0.size))
  have hF1 := Lib.hid (fun (w2 : World) (h : Low (W.alloc (.cells #[.string ⟨#[]⟩, .string ⟨#[]⟩, .int .i64 0, .slice none 0 0, .slice none 0 0] 29)).drew.heap.size (W.alloc (.cells #[.string ⟨#[]⟩, .string ⟨#[]⟩, .int .i64 0, .slice none 0 0, .slice none 0 0] 29)).drew w2) => hA1.trans (h.mono hA1.size))
  have hmC := Lib.hid (fun (w2 : World) (h : Low W.heap.size W w2) => (h.cell (p := ⟨w.heap.size + 1 + 1, (x.me % 6).toNat, none⟩) (by show w.heap.size + 1 + 1 < W.heap.size; omega)).trans hm)
  go_cut [4] (fun s4 wx => ∃ Bm A2 c2, s4 = .pointer (some ⟨Bm, 0, none⟩) ∧ Hid (MSt w wx x VA BA vc bc Bm (bs (metOf x.me)) ⟨#[]⟩ 0 (.slice none 0 0) [] A2 c2 (x.body.take k)))
  case first =>
    have HS := Lib.hid (fun (wx : World) (h : Low W.heap.size W wx) => (⟨h, (h.cell (p := ⟨w.heap.size, 0, none⟩) (by show w.heap.size < W.heap.size; omega)).trans s0, (h.cell (p := ⟨w.heap.size, 5, none⟩) (by show w.heap.size < W.heap.size; omega)).trans s5, hmC.out wx h⟩ :
      Low W.heap.size W wx ∧ wx.cell? ⟨w.heap.size, 0, none⟩ = some (.int .i64 x.me) ∧ wx.cell? ⟨w.heap.size, 5, none⟩ = some (.slice BA x.body.length bc) ∧ wx.cell? ⟨w.heap.size + 1 + 1, (x.me % 6).toNat, none⟩ = some (.string (bs (metOf x.me)))))
    have XS := Lib.hid hS
    have XR := Lib.hid hR
    have XL := Lib.hid hLW
    have XA := Lib.hid hZA
    have B0 : w.heap.size + 2 ≤ W.drew.heap.size := by simp [hzW]
    have B1 : w.heap.size + 2 ≤ (W.alloc (.cells #[.string ⟨#[]⟩, .string ⟨#[]⟩, .int .i64 0, .slice none 0 0, .slice none 0 0] 29)).drew.heap.size := by rw [hzA]; omega
    have C1 : w.heap.size + 3 < (W.alloc (.cells #[.string ⟨#[]⟩, .string ⟨#[]⟩, .int .i64 0, .slice none 0 0, .slice none 0 0] 29)).drew.heap.size := by rw [hzA]; omega
    have D1 : w.heap.size + 1 < w.heap.size + 3 := by omega
    have HB0 := Lib.hid B0
    have HB1 := Lib.hid B1
    have HC1 := Lib.hid C1
    have HD1 := Lib.hid D1
    clear B0 B1 C1 D1
    clear hS hR hLW hZA hv hb hbk hbc hpa hho hvl hvn hbn hM hmC s0 s5 hm
    go_region_held3 (fun wx => Low W.heap.size W wx ∧ wx.cell? ⟨w.heap.size, 0, none⟩ = some (.int .i64 x.me) ∧ wx.cell? ⟨w.heap.size, 5, none⟩ = some (.slice BA x.body.length bc) ∧ wx.cell? ⟨w.heap.size + 1 + 1, (x.me % 6).toNat, none⟩ = some (.string (bs (metOf x.me))))
      (first | with_reducible exact HS.out _ hA0 | with_reducible exact HS.out _ hA1 | with_reducible exact HS.out _ (hF0.out _ hl2) | with_reducible exact HS.out _ (hF1.out _ hl2) | with_reducible exact HS.out _ ((hF0.out _ hl2).alloc (hF0.out _ hl2).size _) | with_reducible exact HS.out _ (low_set5 (hF1.out _ hl2) (by omega)) | with_reducible exact HS.out _ (low_set5 hl3 (hF0.out _ hl2).size))
      (first | (go_at_call 12; with_reducible refine (HBr.out _).mono ?_; rintro e w2 ⟨rfl, rfl⟩) | (go_at_call 33; with_reducible refine (HCp.out _ hA0).mono ?_; rintro e w2 ⟨v, rfl, ho2, hl2⟩; obtain ⟨A2, c2, rfl, hle2, hB2, hA2⟩ := ho2.slice; have hl3 := (hF0.out _ hl2).alloc (hF0.out _ hl2).size (.cells #[.string ⟨#[]⟩, .string ⟨#[]⟩, .int .i64 0, .slice none 0 0, .slice none 0 0] 29); have hZ3 : ZRow (w2.alloc (.cells #[.string ⟨#[]⟩, .string ⟨#[]⟩, .int .i64 0, .slice none 0 0, .slice none 0 0] 29)) w2.heap.size ⟨#[]⟩ ⟨#[]⟩ 0 (.slice none 0 0) (.slice none 0 0) := ⟨heap_alloc_new w2 _⟩; have q0 := hZ3.cell 0; have q1 := hZ3.cell 1; have q2 := hZ3.cell 2; have q3 := hZ3.cell 3; have q4 := hZ3.cell 4; have r0 := hZ3.f 0; have r1 := hZ3.f 1; have r2 := hZ3.f 2; have r3 := hZ3.f 3; have r4 := hZ3.f 4; simp only [List.getElem?_toArray, List.getElem?_cons_zero, List.getElem?_cons_succ] at q0 q1 q2 q3 q4) | (go_at_call 33; with_reducible refine (HCp.out _ hA1).mono ?_; rintro e w2 ⟨v, rfl, ho2, hl2⟩; obtain ⟨A2, c2, rfl, hle2, hB2, hA2⟩ := ho2.slice; have hZ2 := XA.out.low hl2 XA.out.lt; rw [hzW] at hZ2; have q0 := hZ2.cell 0; have q1 := hZ2.cell 1; have q2 := hZ2.cell 2; have q3 := hZ2.cell 3; have q4 := hZ2.cell 4; have r0 := hZ2.f 0; have r1 := hZ2.f 1; have r2 := hZ2.f 2; have r3 := hZ2.f 3; have r4 := hZ2.f 4; simp at q0 q1 q2 q3 q4))
    all_goals
      go_wp2_with fail
      go_meet
      first
        | with_reducible exact ⟨w2.heap.size, A2, c2, rfl, Lib.hid (mst_after hkl.symm XS.out XR.out hzW XL.out (hF0.out _ hl2) ho2 HB0.out)⟩
        | with_reducible exact ⟨w.heap.size + 3, A2, c2, rfl, Lib.hid (mst_before hkl.symm XS.out XR.out hzW XL.out (hF1.out _ hl2) ho2 HB1.out HD1.out (own_ne ho2 (.inl HC1.out)) hZ2)⟩
  case rest =>
    obtain ⟨Bm, A2, c2, rfl, HM⟩ := hcut
    have hM := HM.out
    have m0 := hM.msg.cell 0
    simp at m0
    have HT : Hid ((bs (metOf x.me)).toList.isEmpty = (metOf x.me).isEmpty) := Lib.hid (by rw [bs_list])
    generalize hemp : (metOf x.me).isEmpty = emp at HT
    have ht := HT.out
    go_upto_if 24 with fail
    have HZ := Lib.hid hM
    have HMe := Lib.hid hemp
    have HPa := Lib.hid hpa
    have HHo := Lib.hid hho
    have HV := Lib.hid hv
    have HVl := Lib.hid hvl
    have HVn := Lib.hid hvn
    clear hM hemp hv hb hbk hbc hpa hho hvl hvn hbn hm0 hm6 hmi hmC s0 s5 hm hF0 hF1 hZA hzA hA0 hA1 hS hR hLW hsl HCp HBr hd6 hkm hkb
    go_cut [24] (fun s24 wx => ∃ (pa : B) (st : Int) (hv : Value) (hs : List Hd), Hid (MSt w wx x VA BA vc bc Bm (bs (metOf x.me)) (bs pa) st hv hs A2 c2 (x.body.take k)) ∧
      Hid (pa = (if emp = true then [] else 47 :: cleanF 59 true [] x.pa) ∧ st = (if emp = true then 100 + x.st % 500 else 0) ∧ hs = (if emp = true then [] else [(hostB, 104 :: cleanF 50 false [] x.host)])))
    case first =>
      cases emp
      · have s2 := HZ.out.seed.cell 2
        have m1 := HZ.out.msg.cell 1
        have f1 := HZ.out.msg.f 1
        simp at s2 m1
        have HC5 := Lib.hid (cleanF_len 59 true x.pa [] (by simp))
        have HCl := Lib.hid (fun (w1 : World) => clean_calls (bs x.pa) 59 true w1 (by decide) (by rw [bs_size]; exact HPa.out))
        simp only [bs_data] at HCl
        have z1 : ¬ 9223372036854775807 < 1 + (bs (cleanF 59 true [] x.pa)).size := by rw [bs_size]; have := HC5.out; omega
        go_upto_region 6 with (go_at_call 46; refine (HCl.out _).mono ?_; rintro e w2 ⟨rfl, hl2⟩; have hM2 := HZ.out.far hl2; have q1 := hM2.msg.cell 1; have r1 := hM2.msg.f 1; simp at q1; have HM2 := Lib.hid hM2; clear hM2)
        have HM5 := Lib.hid (HM2.out.put 1 _ (HM2.out.msg.set1 (pa' := ⟨#[47]⟩ ++ bs (cleanF 59 true [] x.pa))))
        generalize w2.setCell ⟨Bm, 1, none⟩ (.string (⟨#[47]⟩ ++ bs (cleanF 59 true [] x.pa))) = W5 at HM5 ⊢
        rw [one_cat] at HM5
        have s3 := HM5.out.seed.cell 3
        have m3 := HM5.out.msg.cell 3
        simp at s3 m3
        have HC6 := Lib.hid (cleanF_len 50 false x.host [] (by simp))
        have HCh := Lib.hid (fun (w1 : World) => clean_calls (bs x.host) 50 false w1 (by decide) (by rw [bs_size]; exact HHo.out))
        simp only [bs_data] at HCh
        have z2 : ¬ 9223372036854775807 < 1 + (bs (cleanF 50 false [] x.host)).size := by rw [bs_size]; have := HC6.out; omega
        have hcat : (⟨#[104]⟩ : ByteArray) ++ bs (cleanF 50 false [] x.host) = bs (104 :: cleanF 50 false [] x.host) := one_cat _ _
        clear HM2 r1 q1 hl2 z1 f1 s2 m1 HC5 HCl
        go_region_law (first | (refine step_head (w.heap.size + 2) (.slice none 0 0) [] (hostB, 104 :: cleanF 50 false [] x.host) w3.heap.size (.tmp 36) (.tmp 42) (HOwn.nil _ _) (heap_alloc_new _ _) rfl rfl (by simp [Act.eval, Act.put]) (by simp [Act.eval, Act.put]) (by simp) (by have := HM6.out.bm; have := HM6.out.msg.lt; simp at this ⊢; omega) ?_; intro gg cap W1 ho1 hg1 hat1; have hR1 := HM6.out.row hg1; have q3 := hR1.cell 3; have g3 := hR1.f 3; simp at q3) | (go_simp; go_at_call 46; refine (HCh.out _).mono ?_; rintro e w3 ⟨rfl, hl3⟩; have hM5 := (HM5.out.far (Low.refl _ _).drew).far hl3; have m33 := hM5.msg.cell 3; simp at m33; have HM6 := Lib.hid (hM5.far ((Low.refl w3.heap.size w3).alloc (Nat.le_refl _) (.cells #[.string ⟨#[72, 111, 115, 116]⟩, .string (bs (104 :: cleanF 50 false [] x.host))] 33))); have m34 := HM6.out.msg.cell 3; simp at m34; clear hM5))
        all_goals
          go_wp2_with fail
          go_meet
          exact ⟨47 :: cleanF 59 true [] x.pa, 0, _, [(hostB, 104 :: cleanF 50 false [] x.host)], Lib.hid (HM6.out.grow hg1 (by simpa using ho1) hat1), Lib.hid ⟨rfl, rfl, rfl⟩⟩
      · have s1 := HZ.out.seed.cell 1
        have m2 := HZ.out.msg.cell 2
        have f2 := HZ.out.msg.f 2
        simp at s1 m2
        have HB := Lib.hid (fun (w1 : World) => bring_calls x.st 500 w1 (by decide) (by decide))
        have h0 : 0 ≤ x.st % 500 := Int.emod_nonneg _ (by decide)
        have h5 : x.st % 500 < 500 := Int.emod_lt_of_pos _ (by decide)
        go_wp2_with (go_at_call 12; refine (HB.out _).mono ?_; rintro e w2 ⟨rfl, rfl⟩)
        go_meet
        refine ⟨[], 100 + x.st % 500, _, [], Lib.hid (HZ.out.put 2 _ HZ.out.msg.set2), Lib.hid ⟨rfl, rfl, rfl⟩⟩
    case rest =>
      obtain ⟨pa, st, hv0, hs0, HMM, HPS⟩ := hcut
      go_wp2_with fail
      go_loopw [5] (fun i wr => ∃ (j : Nat) (hv : Value), i = .int .i64 j ∧ j ≤ x.vals.length ∧ j ≤ 12 ∧ Hid (MSt w wr x VA BA vc bc Bm (bs (metOf x.me)) (bs pa) st hv (hs0 ++ (vHeads 0 x.vals).take j) A2 c2 (x.body.take k))) (fun i _ => 12 - (intOf i).toNat)
      case atStart => exact ⟨0, hv0, rfl, by omega, by omega, by simpa using HMM⟩
      case round =>
        obtain ⟨j, hv, rfl, hj, hj12, HMr⟩ := hrel
        have v4 := HMr.out.seed.cell 4
        simp at v4
        by_cases hlt : j < x.vals.length ∧ j < 12
        · obtain ⟨hlt, hl12⟩ := hlt
          have d1 : decide ((j : Int) < (x.vals.length : Int)) = true := by simp; omega
          have d2 : decide ((j : Int) < 12) = true := by simp; omega
          have hat := vHeads_at x.vals 0 j hlt (by omega)
          have hsplit : (vHeads 0 x.vals).take (j + 1) = (vHeads 0 x.vals).take j ++ [(xName j, cleanF 200 false [] x.vals[j])] := by
            rw [List.take_add_one, hat, Nat.zero_add]; rfl
          have HSp := Lib.hid hsplit
          have HVj := Lib.hid (HVl.out x.vals[j] (List.getElem_mem hlt))
          obtain ⟨ad, hA, hcw⟩ := HV.out.out j hlt
          subst hA
          have hc := (HMr.out.low.cell (World.block_lt_of_cell? w _ hcw)).trans hcw
          have HCl : Hid (∀ w1 : World, Calls Tryz.prog 46 #[.string (bs x.vals[j]), .int .i64 200, .bool false] w1 fun e w' => e = .returned (.string (bs (cleanF 200 false [] x.vals[j]))) ∧ Low w1.heap.size w1 w') :=
            Lib.hid (fun (w1 : World) => by have := clean_calls (bs x.vals[j]) 200 false w1 (by decide) (by rw [bs_size]; exact HVj.out); rw [bs_data] at this; exact this)
          have Hln := Lib.hid (cleanF_len 200 false x.vals[j] [] (by simp))
          generalize x.vals[j] = vj at hc hcw HCl HSp Hln
          have Hw := Lib.hid hcw
          clear hsplit hat HVj
          have i0 : (0 : Int) ≤ (j : Int) := by omega
          have i1 : (j : Int) < (x.vals.length : Int) := by omega
          have e1 : IntKind.i64.wrap (97 + (j : Int)) = 97 + (j : Int) := by rw [IntKind.wrap_i64]; omega
          have e2 : IntKind.u8.wrap (97 + (j : Int)) = 97 + (j : Int) := by rw [IntKind.wrap_u8]; omega
          obtain ⟨cb, hcb⟩ : ∃ cb : UInt8, cb = UInt8.ofNat (97 + j) := ⟨_, rfl⟩
          have z1 : ¬ 9223372036854775807 < 2 + (bs [cb]).size := by rw [bs_size]; simp
          have hcat : (⟨#[88, 45]⟩ : ByteArray) ++ bs [cb] = bs (xName j) := by rw [hcb]; exact x_cat j
          have m3 := HMr.out.msg.cell 3
          simp at m3
          have hMr := HMr.out
          -- the row of one byte made first
          have hB1 := (Low.refl wr.heap.size wr).alloc (Nat.le_refl _) (.cells #[.int .u8 (97 + (j : Int))] 5)
          have hMA := hMr.far hB1.drew
          have hbj : 97 + (j : Int) = (cb.toNat : Int) := by rw [hcb]; simp; omega
          have cvA := byte_conv (w := (wr.alloc (.cells #[.int .u8 (97 + (j : Int))] 5)).drew) (g := wr.heap.size) hbj (heap_alloc_new wr _)
          have a3 := hMA.msg.cell 3
          have a4 := hMA.seed.cell 4
          simp at a3 a4
          have hca : (wr.alloc (.cells #[.int .u8 (97 + (j : Int))] 5)).cell? (ad.add j) = some (.string (bs vj)) := (hB1.cell (World.block_lt_of_cell? wr _ hc)).trans hc
          have HMA := Lib.hid hMA
          have Hbj := Lib.hid hbj
          have HBs := Lib.hid (show wr.heap.size < (wr.alloc (.cells #[.int .u8 (97 + (j : Int))] 5)).drew.heap.size by simp)
          have HBn := Lib.hid (show (wr.alloc (.cells #[.int .u8 (97 + (j : Int))] 5)).drew.heap[wr.heap.size]? = some (.cells #[.int .u8 (97 + (j : Int))] 5) from heap_alloc_new wr _)
          obtain ⟨n0, hn0⟩ : ∃ n0, (hs0 ++ (vHeads 0 x.vals).take j).length = n0 := ⟨_, rfl⟩
          have Hn0 := Lib.hid hn0
          clear hn0
          have HLn := Lib.hid (show (hs0 ++ (vHeads 0 x.vals).take j).length ≤ 100000 by rw [List.length_append, HPS.out.2.2, List.length_take]; split <;> simp <;> omega)
          clear hMA hB1 hMr hlt hj hj12 hbj hcb hcw
          go_wp2_with fail
          go_region_law (first | (refine step_head (w.heap.size + 2) hv (hs0 ++ (vHeads 0 x.vals).take j) (xName j, cleanF 200 false [] vj) _ (.tmp 57) (.tmp 71) HM6.out.heads HN6 rfl rfl (by simp [Act.eval, Act.put]) (by simp [Act.eval, Act.put]) HLn.out HB6.out ?_; intro gg cap W1 ho1 hg1 hat1; simp only [Hn0.out] at ho1 ⊢; have hR1 := HM6.out.row hg1; have q3 := hR1.cell 3; have g3 := hR1.f 3; simp at q3; have HM7 := Lib.hid (HM6.out.grow hg1 ho1 hat1)) | (go_simp; go_at_call 46; with_reducible refine (HCl.out wr.drew).mono ?_; rintro e w3 ⟨rfl, hl3⟩; have hM3 := (HMr.out.far (Low.refl _ _).drew).far hl3; have p3 := hM3.msg.cell 3; have hM4 := hM3.far ((Low.refl w3.heap.size w3).alloc (Nat.le_refl _) (.cells #[.int .u8 (97 + (j : Int))] 5)); have p4 := hM4.msg.cell 3; have cvB := byte_conv (w := w3.alloc (.cells #[.int .u8 (97 + (j : Int))] 5)) (g := w3.heap.size) Hbj.out (heap_alloc_new w3 _); have hM5 := hM4.far ((Low.refl (w3.alloc (.cells #[.int .u8 (97 + (j : Int))] 5)).heap.size (w3.alloc (.cells #[.int .u8 (97 + (j : Int))] 5))).alloc (Nat.le_refl _) (.cells #[.string (bs (xName j)), .string (bs (cleanF 200 false [] vj))] 33)); have p5 := hM5.msg.cell 3; have HN6 := row_two w3 #[.int .u8 (97 + (j : Int))] #[.string (bs (xName j)), .string (bs (cleanF 200 false [] vj))] 5 33; have HB6 := Lib.hid hM5.room; have HM6 := Lib.hid hM5; simp at p3 p4 p5; clear hM3 hM4 hM5) | (go_simp; go_at_call 46; with_reducible refine (HCl.out (wr.alloc (.cells #[.int .u8 (97 + (j : Int))] 5)).drew).mono ?_; rintro e w3 ⟨rfl, hl3⟩; have hM3 := HMA.out.far hl3; have p3 := hM3.msg.cell 3; have cvB := byte_conv (w := w3) (g := wr.heap.size) Hbj.out ((hl3.out.block wr.heap.size HBs.out).trans HBn.out); have hM5 := hM3.far ((Low.refl w3.heap.size w3).alloc (Nat.le_refl _) (.cells #[.string (bs (xName j)), .string (bs (cleanF 200 false [] vj))] 33)); have p5 := hM5.msg.cell 3; have HN6 := heap_alloc_new w3 (.cells #[.string (bs (xName j)), .string (bs (cleanF 200 false [] vj))] 33); have HB6 := Lib.hid hM5.room; have HM6 := Lib.hid hM5; simp at p3 p5; clear hM3 hM5))
          all_goals
            go_wp2_with fail
            refine ⟨⟨j + 1, .slice (some ⟨gg, 0, none⟩) (n0 + 1) cap, ?_, ?_, ?_, ?_⟩, ?_⟩
            · go_num
            · omega
            · omega
            · rw [HSp.out, ← List.append_assoc]
              exact HM7
            · simp [intOf]
              omega
        · have hM4 := HMr.out
          have hall : (vHeads 0 x.vals).take j = vHeads 0 x.vals := List.take_of_length_le (by rw [vHeads_length]; omega)
          rw [hall] at hM4
          have hmade : madeM x = ⟨metOf x.me, pa, st, hs0 ++ vHeads 0 x.vals, x.body.take k⟩ := by
            obtain ⟨e1, e2, e3⟩ := HPS.out
            have ek : x.body.take k = x.body.take 2000 := by
              rw [hkx.out]
              rcases Nat.le_total x.body.length 2000 with h | h
              · rw [Nat.min_eq_left h, List.take_length, List.take_of_length_le h]
              · rw [Nat.min_eq_right h]
            unfold madeM
            rw [HMe.out, ek]
            cases emp
            · rw [if_neg (by decide), e1, e2, e3]; rfl
            · have he : metOf x.me = [] := by simpa using HMe.out
              rw [if_pos rfl, e1, e2, e3, he]; rfl
          have Hmade := Lib.hid hmade
          obtain ⟨A', c', e', hle, hH, hA'⟩ := hM4.heads.slice
          obtain ⟨nH, hnH⟩ : ∃ nH, (hs0 ++ vHeads 0 x.vals).length = nH := ⟨_, rfl⟩
          rw [hnH] at e'
          subst e'
          have HnH := Lib.hid hnH
          have m0 := hM4.msg.cell 0
          have m1 := hM4.msg.cell 1
          have m2 := hM4.msg.cell 2
          have m3 := hM4.msg.cell 3
          have m4 := hM4.msg.cell 4
          have r0 := hM4.res.cell 0
          have r1 := hM4.res.cell 1
          have r2 := hM4.res.cell 2
          have r3 := hM4.res.cell 3
          have r4 := hM4.res.cell 4
          have y0 := hM4.res.f 0
          have y1 := hM4.res.f 1
          have y2 := hM4.res.f 2
          have y3 := hM4.res.f 3
          have y4 := hM4.res.f 4
          simp only [List.getElem?_toArray, List.getElem?_cons_zero, List.getElem?_cons_succ] at m0 m1 m2 m3 m4 r0 r1 r2 r3 r4
          have HM4 := Lib.hid hM4
          have hd : ((x.vals.length : Int) ≤ (j : Int) ∧ decide ((j : Int) < (x.vals.length : Int)) = false) ∨ (((j : Int) < (x.vals.length : Int) ∧ (12 : Int) ≤ (j : Int)) ∧ decide ((j : Int) < (x.vals.length : Int)) = true ∧ decide ((j : Int) < 12) = false) := by
            by_cases h : j < x.vals.length
            · exact .inr ⟨⟨by omega, by omega⟩, by simp; omega, by simp; omega⟩
            · exact .inl ⟨by omega, by simp; omega⟩
          clear hM4 hmade hall hlt hnH hle hH hA'
          rcases hd with ⟨i0, d1⟩ | ⟨⟨i0, i1⟩, d1, d2⟩
          all_goals
            go_wp2_with fail
            have hres := results_cell_row (P := Tryz.prog) (fn := Tryz.f11) (p := 2) (ty := 29) (by kernel_rfl)
            refine bodyPost_ret (hres _ _ (w.heap.size + 1) 29 #[.string (bs (metOf x.me)), .string (bs pa), .int .i64 st, .slice A' nH c', .slice A2 k c2] (0, 0) _ ?_ (ZRow.to (me' := bs (metOf x.me)) (pa' := bs pa) (st' := st) (hv' := .slice A' nH c') (bv' := .slice A2 k c2) HM4.out.res).out Tryz.underlying29 rfl size29) ?_ ?_
            · rfl
            · rfl
            rw [Hmade.out]
            have hne : ∀ j, j ≠ w.heap.size + 1 → (((((wr.setCell ⟨w.heap.size + 1, 0, none⟩ (.string (bs (metOf x.me)))).setCell ⟨w.heap.size + 1, 1, none⟩ (.string (bs pa))).setCell ⟨w.heap.size + 1, 2, none⟩ (.int .i64 st)).setCell ⟨w.heap.size + 1, 3, none⟩ (.slice A' nH c')).setCell ⟨w.heap.size + 1, 4, none⟩ (.slice A2 k c2)).heap[j]? = wr.heap[j]? := fun j hj => by
              rw [heap_set_ne _ _ _ _ _ hj, heap_set_ne _ _ _ _ _ hj, heap_set_ne _ _ _ _ _ hj, heap_set_ne _ _ _ _ _ hj, heap_set_ne _ _ _ _ _ hj]
            have kH := (HM4.out.heads.same fun j hj => hne j (fun e => by have := (HM4.out.heads.out.lt j hj).1; omega)).weak (b' := w.heap.size) (by omega)
            have kB := (HM4.out.bown.same fun j hj => hne j (fun e => by have := (HM4.out.bown.out.lt j hj).1; omega)).weak (b' := w.heap.size) (by omega)
            have kL := low_set5 (v0 := .string (bs (metOf x.me))) (v1 := .string (bs pa)) (v2 := .int .i64 st) (v3 := .slice A' nH c') (v4 := .slice A2 k c2) HM4.out.low (Nat.le_succ w.heap.size)
            refine ⟨A', c', A2, c2, ?_, kL, ?_, kB⟩
            · dsimp only
              rw [HnH.out, hkl]
            · dsimp only
              rw [HnH.out]
              exact kH
end Go.Proofs.YtcognpibphpadaaGreatDoor
