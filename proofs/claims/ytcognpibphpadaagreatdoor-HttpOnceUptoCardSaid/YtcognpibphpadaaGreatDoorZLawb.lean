/- Plain: the messages out of seeds, and the bytes of the law of two frames. -/
import Derived.Test.YtcognpibphpadaaGreatDoorZLaw
import Derived.Test.YtcognpibphpadaaGreatDoorZMade0
set_option linter.unusedVariables false
set_option linter.unusedSimpArgs false
namespace Go.Proofs.YtcognpibphpadaaGreatDoor

/-- Bytes that are seen, no blank. -/
def Seen (v : B) : Prop := ∀ c ∈ v, 32 < c.toNat ∧ c.toNat ≤ 126
theorem cleanF_seen (most : Nat) (p : Bool) : ∀ (l out : B), Seen out → Seen (cleanF most p out l)
  | [], out, h => h
  | c :: t, out, h => by
    rw [cleanF]
    split
    · split
      · next hc =>
        refine cleanF_seen most p t _ (fun x hx => ?_)
        rcases List.mem_append.1 hx with hx | hx
        · exact h x hx
        · simp at hx
          subst hx
          simp [okC] at hc
          exact ⟨hc.1, hc.2.1⟩
      · exact cleanF_seen most p t _ h
    · exact h
theorem cleanF_len (most : Nat) (p : Bool) : ∀ (l out : B), out.length ≤ most → (cleanF most p out l).length ≤ most
  | [], out, h => h
  | c :: t, out, h => by
    rw [cleanF]
    split
    · split
      · exact cleanF_len most p t _ (by simp; omega)
      · exact cleanF_len most p t _ h
    · exact h
theorem Seen.noEnd {v : B} (h : Seen v) : NoEnd v := fun c hc => by
  have := h c hc
  exact ⟨fun e => by subst e; exact absurd this.1 (by decide), fun e => by subst e; exact absurd this.1 (by decide)⟩
theorem Seen.ne32 {v : B} (h : Seen v) : ∀ c ∈ v, c ≠ 32 := fun c hc e => by
  have := h c hc
  subst e; exact absurd this.1 (by decide)
theorem Seen.trimmed {v : B} (h : Seen v) : Trimmed v :=
  ⟨fun c hc e => by have := h c hc; subst e; exact absurd this.1 (by decide), fun e => h.ne32 32 (List.mem_of_getElem? e) rfl, fun _ e => h.ne32 32 (List.mem_of_getElem? e) rfl⟩
theorem dropWhile_ne (v : B) (h : ∀ c ∈ v, c ≠ 32) : v.dropWhile (· == 32) = v := by
  cases v with
  | nil => rfl
  | cons c t => rw [List.dropWhile_cons, if_neg (by simpa using h c (by simp))]
theorem Seen.valueB {v : B} (h : Seen v) (hl : v.length ≤ 200) : valueB v = true := by
  have h1 : Lib.trimB v 32 = v := by
    unfold Lib.trimB Lib.trimRightB Lib.trimLeftB
    rw [dropWhile_ne v.reverse (fun c hc => h.ne32 c (List.mem_reverse.1 hc)), List.reverse_reverse, dropWhile_ne v h.ne32]
  have h2 : v.all vis = true := List.all_eq_true.2 fun c hc => by
    have := h c hc
    simp [vis]; omega
  unfold Go.Proofs.YtcognpibphpadaaGreatDoor.valueB
  rw [h1, h2]
  simp [hl]

/-- A header that a line of the law may be made of. -/
structure GoodY (h : Hd) : Prop where
  colon : (58 : UInt8) ∉ ([89, 45] ++ h.1)
  noEnd : NoEnd ([89, 45] ++ h.1)
  fold : (foldF ([89, 45] ++ h.1)).isSome = true
  seen : Seen h.2
  n : h.1.length ≤ 10
  v : h.2.length ≤ 200
def yHd (h : Hd) : Hd := ([89, 45] ++ h.1, h.2)
def yLine (h : Hd) : B := ([89, 45] ++ h.1) ++ 58 :: 32 :: h.2
theorem GoodY.line {h : Hd} (g : GoodY h) : lineH (yLine h) = some (yHd h) := by
  have hn := g.n
  have hv := g.v
  exact lineH_of _ _ g.colon g.seen.trimmed (by unfold mayB; rw [g.fold, g.seen.valueB g.v]; rfl) (by simp; omega)
theorem GoodY.ok {h : Hd} (g : GoodY h) : NoEnd (yLine h) ∧ (yLine h).length ≤ 300 ∧ yLine h ≠ [] := by
  have hn := g.n
  have hv := g.v
  refine ⟨fun c hc => ?_, by simp [yLine]; omega, by simp [yLine]⟩
  rcases List.mem_append.1 hc with hc | hc
  · exact g.noEnd c hc
  · simp only [List.mem_cons] at hc
    rcases hc with rfl | rfl | hc
    · decide
    · decide
    · exact g.seen.noEnd c hc
theorem goodY_host (v : B) (hs : Seen v) (hl : v.length ≤ 200) : GoodY (hostB, v) := ⟨by show (58 : UInt8) ∉ ([89, 45] ++ hostB : B); decide, by show ∀ c ∈ ([89, 45] ++ hostB : B), c ≠ 10 ∧ c ≠ 13; decide +kernel, by show (foldF ([89, 45] ++ hostB)).isSome = true; kernel_rfl, hs, by show hostB.length ≤ 10; decide, hl⟩
theorem goodY_x (i : Nat) (hi : i < 12) (v : B) (hs : Seen v) (hl : v.length ≤ 200) : GoodY (xName i, v) := by
  have h : ∀ i : Fin 12, (58 : UInt8) ∉ ([89, 45] ++ xName i.val) ∧ (∀ c ∈ ([89, 45] ++ xName i.val : B), c ≠ 10 ∧ c ≠ 13) ∧ (foldF ([89, 45] ++ xName i.val)).isSome = true ∧ (xName i.val).length ≤ 10 := by decide +kernel
  obtain ⟨h1, h2, h3, h4⟩ := h ⟨i, hi⟩
  exact ⟨h1, h2, h3, hs, h4, hl⟩
theorem vHeads_good : ∀ (vs : List B) (i : Nat), ∀ h ∈ vHeads i vs, GoodY h
  | [], i, h, hh => by cases hh
  | v :: t, i, h, hh => by
    rw [vHeads] at hh
    split at hh
    · next hi =>
      rcases List.mem_cons.1 hh with e | e
      · subst e
        exact goodY_x i hi _ (cleanF_seen 200 false v [] (fun c hc => by cases hc)) (cleanF_len 200 false v [] (by simp))
      · exact vHeads_good t (i + 1) h e
    · cases hh
theorem vHeads_len : ∀ (vs : List B) (i : Nat), (vHeads i vs).length ≤ 12 - i
  | [], i => by simp [vHeads]
  | v :: t, i => by
    rw [vHeads]
    split
    · have := vHeads_len t (i + 1)
      simp only [List.length_cons]; omega
    · simp
theorem madeM_good (x : Sd) : (∀ h ∈ (madeM x).hs, GoodY h) ∧ (madeM x).hs.length ≤ 13 := by
  have hv := vHeads_len x.vals 0
  unfold madeM
  split
  · exact ⟨vHeads_good x.vals 0, by simp only; omega⟩
  · refine ⟨fun h hh => ?_, by simp only [List.length_cons]; omega⟩
    rcases List.mem_cons.1 hh with e | e
    · subst e
      have h1 := cleanF_seen 50 false x.host [] (fun c hc => by cases hc)
      have h2 := cleanF_len 50 false x.host [] (by simp)
      refine goodY_host _ (fun c hc => ?_) (by simp; omega)
      rcases List.mem_cons.1 hc with e | e
      · subst e; decide
      · exact h1 c e
    · exact vHeads_good x.vals 0 h e
end Go.Proofs.YtcognpibphpadaaGreatDoor
