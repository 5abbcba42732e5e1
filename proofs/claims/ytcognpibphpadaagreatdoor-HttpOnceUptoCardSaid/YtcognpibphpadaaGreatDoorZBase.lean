/- Words shared by the walks of this seat: bytes and heads that are read, the reader's block, the listed variables. -/
import Derived.Test.YtcognpibphpadaaGreatDoorProg
import Derived.WalkKit
import Derived.Below
import Derived.Deep.Draws
import Derived.OwnWalk
import Derived.Tactics
import Derived.KernelRfl
import Derived.RowKit3
import Derived.Deep.LoopGhost
import Derived.Deep.QuietTactic
import Derived.BigQuiet
import Derived.WideLaws
import Derived.Lib.Hide
import Derived.ShapedOpen
import Derived.Laws.BytesArg
import Derived.Laws.IdiomStrings
import Derived.Lib.ConvBytes
import Derived.Maps.AppendAt
import Derived.Handy
set_option linter.unusedVariables false
set_option linter.unusedSimpArgs false
namespace Go.Proofs.YtcognpibphpadaaGreatDoor
open Go.RowKit

abbrev B := List UInt8
def bs (l : B) : ByteArray := ⟨l.toArray⟩
theorem bs_list (l : B) : (bs l).toList = l := by simp [bs, ByteArray.toList_eq]
theorem bs_data (l : B) : (bs l).data.toList = l := by simp [bs]
theorem bs_of (s : ByteArray) : bs s.data.toList = s := by simp [bs]
theorem bs_size (l : B) : (bs l).size = l.length := by simp [bs, ByteArray.size]

theorem quiet_add {P : Program} {f : FuncId} {args : Array Value} {w : World} {a n : Nat} {v : Value}
    (h : Calls P f args (w.drewN (a + n)) fun e w' => e = .returned v ∧ ∃ m, w' = (w.drewN (a + n)).drewN m) :
    Calls P f args (w.drewN (a + n)) fun e w'' => e = .returned v ∧ ∃ m, w'' = w.drewN (a + m) :=
  h.mono fun _ _ ⟨he, m, hm⟩ => ⟨he, n + m, by rw [hm, World.drewN_drewN, Nat.add_assoc]⟩
theorem quiet_add_same {P : Program} {f : FuncId} {args : Array Value} {w : World} {a n : Nat} {v : Value}
    (h : Calls P f args (w.drewN (a + n)) fun e w' => e = .returned v ∧ w' = w.drewN (a + n)) :
    Calls P f args (w.drewN (a + n)) fun e w'' => e = .returned v ∧ ∃ m, w'' = w.drewN (a + m) :=
  h.mono fun _ _ ⟨he, hm⟩ => ⟨he, n, hm⟩

/-- What lies below is as it was: a relation that the walk does not look into. -/
structure Low (b : Nat) (w w' : World) : Prop where
  out : Below b w w'
theorem Low.refl (b : Nat) (w : World) : Low b w w := ⟨Below.refl b w⟩
theorem Low.trans {b : Nat} {w w1 w2 : World} (h : Low b w w1) (k : Low b w1 w2) : Low b w w2 := ⟨h.out.trans k.out⟩
theorem Low.mono {b b' : Nat} {w w' : World} (h : Low b w w') (hb : b' ≤ b) : Low b' w w' := ⟨h.out.mono hb⟩
theorem Low.alloc {b : Nat} {w w1 : World} (h : Low b w w1) (hb : b ≤ w1.heap.size) (o : Obj) : Low b w (w1.alloc o) := ⟨h.out.alloc hb o⟩
theorem Low.drew {b : Nat} {w w1 : World} (h : Low b w w1) : Low b w w1.drew := ⟨h.out.drew⟩
theorem Low.drewN {b : Nat} {w w1 : World} (h : Low b w w1) (n : Nat) : Low b w (w1.drewN n) := ⟨⟨h.out.os, h.out.tape, h.out.output, h.out.size, h.out.block⟩⟩
theorem Low.setCell {b : Nat} {w w1 : World} (h : Low b w w1) {p : Addr} (hp : b ≤ p.block) (u : Value) : Low b w (w1.setCell p u) := ⟨h.out.setCell hp u⟩
theorem Low.size {b : Nat} {w w1 : World} (h : Low b w w1) : w.heap.size ≤ w1.heap.size := h.out.size
theorem Low.cell {b : Nat} {w w1 : World} (h : Low b w w1) {p : Addr} (hp : p.block < b) : w1.cell? p = w.cell? p := h.out.cell hp

/-- Bytes that are read: cell by cell. -/
structure Bts (w : World) (A : Option Addr) (l : B) : Prop where
  out : ∀ j (h : j < l.length), ∃ ad, A = some ad ∧ w.cell? (ad.add j) = some (.int .u8 (l[j].toNat : Int))
theorem add_block (a : Addr) (n : Nat) : (a.add n).block = a.block := by unfold Addr.add; split <;> rfl
theorem Bts.low {w w1 : World} {A : Option Addr} {l : B} (h : Bts w A l) {b : Nat} (hl : Low b w w1) (hb : w.heap.size ≤ b) : Bts w1 A l := ⟨fun j hj => by
  obtain ⟨ad, e, hc⟩ := h.out j hj
  exact ⟨ad, e, (hl.cell (p := ad.add j) (Nat.lt_of_lt_of_le (World.block_lt_of_cell? w _ hc) hb)).trans hc⟩⟩

theorem Bts.far {w w1 : World} {A : Option Addr} {l : B} (h : Bts w A l) {b : Nat} (hl : Low b w w1) (hA : ∀ ad, A = some ad → ad.block < b) : Bts w1 A l := ⟨fun j hj => by
  obtain ⟨ad, e, hc⟩ := h.out j hj
  exact ⟨ad, e, (hl.cell (p := ad.add j) (by rw [add_block]; exact hA ad e)).trans hc⟩⟩

/-- The address behind 'x[lo:]': at the capacity it stays. -/
def subA (ad : Addr) (c lo : Nat) : Addr := if c = lo then ad else ad.add lo
theorem subA_block (ad : Addr) (c lo : Nat) : (subA ad c lo).block = ad.block := by unfold subA; split <;> simp [add_block]
theorem add_add (a : Addr) (m n : Nat) : (a.add m).add n = a.add (m + n) := by
  unfold Addr.add; split <;> split <;> simp_all <;> omega
theorem slice_run (t e : TypeId) (ht : Tryz.prog.underlying t = some (.slice e)) (hs : ∀ W : World, (sizeOf e).run Tryz.prog W = .ok 1 W) (ad : Addr) (n c lo len : Nat) (h : lo + len ≤ c) (W : World) :
    (Instr.slice t (.slice (some ad) n c) (some (.int .i64 (lo : Int))) (some (.int .i64 ((lo : Int) + (len : Int)))) none).run Tryz.prog W = .ok (.slice (some (subA ad c lo)) len (c - lo)) W := by
  have he : Tryz.prog.elem t = e := by simp [Program.elem, ht]
  rw [run_slice_lh (P := Tryz.prog) W t (some ad) n c (by rw [he]; exact ht) .i64 .i64 (lo : Int) ((lo : Int) + (len : Int)) (by omega) (by omega) (by omega), he, hs]
  have e1 : ((lo : Int)).toNat = lo := by omega
  have e2 : ((lo : Int) + (len : Int)).toNat - lo = len := by omega
  by_cases hc : c = lo <;> simp [sliced, subA, e1, e2, hc] <;> omega
theorem size5 (W : World) : (sizeOf 5).run Tryz.prog W = .ok 1 W := by kernel_rfl
theorem Bts.sub {w : World} {ad : Addr} {l : B} (h : Bts w (some ad) l) (c lo len : Nat) (h1 : lo + len ≤ l.length) (h2 : l.length ≤ c) : Bts w (some (subA ad c lo)) ((l.drop lo).take len) := ⟨fun j hj => by
  simp at hj
  obtain ⟨ad', e, hc⟩ := h.out (lo + j) (by omega)
  cases e
  have hne : ¬ c = lo := by omega
  refine ⟨_, rfl, ?_⟩
  simp only [subA, hne, if_false, add_add]
  simpa using hc⟩
theorem Bts.conv {w : World} {A : Option Addr} {l : B} (h : Bts w A l) (c : Nat) : (convert 23 9 (.slice A l.length c)).run Tryz.prog w = .ok (.string (bs l)) w := by
  cases A with
  | none =>
    cases l with
    | nil => exact run_convert_bytes_nil w 23 5 Tryz.underlying23 Tryz.underlying5 _ _ 9 Tryz.underlying9
    | cons x t => obtain ⟨ad, e, _⟩ := h.out 0 (by simp); cases e
  | some ad => exact run_convert_bytes_back w 23 9 5 ad c l Tryz.underlying23 Tryz.underlying5 Tryz.underlying9 (fun j hj => by
      obtain ⟨ad', e, hc⟩ := h.out j hj; cases e; exact hc)
theorem Bts.drewN {w : World} {A : Option Addr} {l : B} (h : Bts w A l) (n : Nat) : Bts (w.drewN n) A l := ⟨h.out⟩

theorem add0 (b j : Nat) : (⟨b, 0, none⟩ : Addr).add j = ⟨b, j, none⟩ := by unfold Addr.add; split <;> simp_all
theorem Bts.at0 {w : World} {b : Nat} {l : B} (h : Bts w (some ⟨b, 0, none⟩) l) (j : Nat) (hj : j < l.length) : w.cell? ⟨b, j, none⟩ = some (.int .u8 (l[j].toNat : Int)) := by
  obtain ⟨ad, e, hc⟩ := h.out j hj
  cases e
  rwa [add0] at hc
/-- '[]byte(s)': a new row that holds the bytes. -/
theorem conv_str (w : World) (s : ByteArray) : ∃ W1 cp, (convert 9 23 (.string s)).run Tryz.prog w = .ok (.slice (some ⟨w.heap.size, 0, none⟩) s.size cp) W1 ∧ Bts W1 (some ⟨w.heap.size, 0, none⟩) s.data.toList ∧ Low w.heap.size w W1 ∧ W1.heap.size = w.heap.size + 1 ∧
    (∀ j, j < s.size → W1.frozen? ⟨w.heap.size, j, none⟩ = false) := by
  refine ⟨Lib.bytesWorld w 5 s, Go.grownCap w s.size 0 5, Lib.run_convert_string_bytes w 9 23 5 s Tryz.underlying9 Tryz.underlying23 Tryz.underlying5, ⟨fun j hj => ⟨_, rfl, ?_⟩⟩, ⟨⟨rfl, rfl, rfl, by rw [Lib.bytesWorld_size]; omega, fun k hk => Lib.bytesWorld_at_old w 5 s k hk⟩⟩, Lib.bytesWorld_size w 5 s, fun j hj => ?_⟩
  · have hj' : j < s.size := by rw [← ByteArray.size_data, ← Array.length_toList]; exact hj
    have h := Lib.bytesWorld_cell w 5 s j hj'
    have e : (⟨w.heap.size, 0, none⟩ : Addr).add j = ⟨w.heap.size, j, none⟩ := by unfold Addr.add; split <;> simp_all
    rw [e, h]
    simp [List.getD_eq_getElem?_getD, List.getElem?_eq_getElem hj]
  · have h := Lib.bytesWorld_at_new w 5 s
    unfold World.frozen?
    simp only [h]
    have : s.size ≤ (Lib.bytesCells w 5 s).size := by simp [Lib.bytesCells]
    simp; omega

/-- What the listed variables hold. -/
structure Glob (w : World) : Prop where
  end0 : w.cell? ⟨0, 0, none⟩ = some (.int .u8 13)
  end1 : w.cell? ⟨0, 1, none⟩ = some (.int .u8 10)
  most : ∃ m, w.cell? ⟨3, 0, none⟩ = some (.int .i64 m)
  syn : ∃ te pe, w.cell? ⟨4, 0, none⟩ = some (.iface te pe)
theorem Glob.lt {w : World} (h : Glob w) : 4 < w.heap.size := by
  obtain ⟨te, pe, hc⟩ := h.syn
  exact World.block_lt_of_cell? w _ hc
theorem Glob.low {w w1 : World} (h : Glob w) {b : Nat} (hl : Low b w w1) (hb : 4 < b) : Glob w1 := by
  have e : ∀ k o, k ≤ 4 → w1.cell? ⟨k, o, none⟩ = w.cell? ⟨k, o, none⟩ := fun k o hk => hl.cell (p := ⟨k, o, none⟩) (by show k < b; omega)
  exact ⟨(e 0 0 (by omega)).trans h.end0, (e 0 1 (by omega)).trans h.end1, by obtain ⟨m, hm⟩ := h.most; exact ⟨m, (e 3 0 (by omega)).trans hm⟩,
    by obtain ⟨te, pe, hc⟩ := h.syn; exact ⟨te, pe, (e 4 0 (by omega)).trans hc⟩⟩
theorem Glob.drewN {w : World} (h : Glob w) (n : Nat) : Glob (w.drewN n) := h.low (b := 5) ((Low.refl _ _).drewN n) (by omega)

/-- The reader's block. -/
structure RS where
  A : Option Addr
  n : Nat
  c : Nat
  at_ : Nat
  e : Int
  me : ByteArray
  pa : ByteArray
  st : Int
  hv : Value
  bv : Value
  rv : Value
  size : Int
def RS.cells (s : RS) : Array Value := #[.slice s.A s.n s.c, .int .i64 s.at_, .int .i64 s.e, .string s.me, .string s.pa, .int .i64 s.st, s.hv, s.bv, s.rv, .int .i64 s.size]
structure RBlk (w : World) (g : Nat) (s : RS) : Prop where
  out : w.heap[g]? = some (.cells s.cells 105 (0, 0))
theorem RBlk.lt {w : World} {g : Nat} {s : RS} (h : RBlk w g s) : g < w.heap.size := (Array.getElem?_eq_some_iff.1 h.out).1
theorem RBlk.cell {w : World} {g : Nat} {s : RS} (h : RBlk w g s) (k : Nat) (hk : k < 10) : w.cell? ⟨g, k, none⟩ = s.cells[k]? := by
  have := h.out
  unfold World.cell?
  simp [this]
theorem RBlk.free {w : World} {g : Nat} {s : RS} (h : RBlk w g s) (k : Nat) : w.frozen? ⟨g, k, none⟩ = false := by
  have := h.out
  unfold World.frozen?
  simp [this]
end Go.Proofs.YtcognpibphpadaaGreatDoor
