/- Plain: the messages out of seeds may be. -/
import Derived.Test.YtcognpibphpadaaGreatDoorZBack
set_option linter.unusedVariables false
set_option linter.unusedSimpArgs false
namespace Go.Proofs.YtcognpibphpadaaGreatDoor

theorem indexByte_none : ∀ (l : B) (c : UInt8), c ∉ l → Lib.indexByte l c = -1
  | [], c, _ => rfl
  | b :: l, c, h => by
    simp only [List.mem_cons, not_or] at h
    unfold Lib.indexByte
    rw [if_neg (by simp; exact fun e => h.1 e.symm), indexByte_none l c h.2]
    rfl
theorem cleanF_hash (most : Nat) : ∀ (l out : B), (35 : UInt8) ∉ out → (35 : UInt8) ∉ cleanF most true out l
  | [], out, h => h
  | c :: t, out, h => by
    rw [cleanF]
    split
    · split
      · next hc =>
        refine cleanF_hash most t _ (fun hx => ?_)
        rcases List.mem_append.1 hx with hx | hx
        · exact h hx
        · simp at hx
          subst hx
          simp [okC] at hc
      · exact cleanF_hash most t _ h
    · exact h
theorem vHeads_are : ∀ (vs : List B) (i : Nat), ∀ h ∈ vHeads i vs, ∃ j, j < 12 ∧ h.1 = xName j ∧ Seen h.2 ∧ h.2.length ≤ 200
  | [], i, h, hh => by cases hh
  | v :: t, i, h, hh => by
    rw [vHeads] at hh
    split at hh
    · next hi =>
      rcases List.mem_cons.1 hh with e | e
      · subst e
        exact ⟨i, hi, rfl, cleanF_seen 200 false v [] (fun c hc => by cases hc), cleanF_len 200 false v [] (by simp)⟩
      · exact vHeads_are t (i + 1) h e
    · cases hh
theorem xName_ok (i : Nat) (hi : i < 12) : keptB (xName i) = true ∧ (foldF (xName i)).isSome = true ∧ alike (xName i) hostB = false := by
  have : ∀ i : Fin 12, keptB (xName i.val) = true ∧ (foldF (xName i.val)).isSome = true ∧ alike (xName i.val) hostB = false := by decide +kernel
  exact this ⟨i, hi⟩
theorem hostB_ok : keptB hostB = true ∧ (foldF hostB).isSome = true ∧ alike hostB hostB = true := by decide +kernel
theorem seen_may {n v : B} (hn : (foldF n).isSome = true) (hv : Seen v) (hl : v.length ≤ 200) : mayH (n, v) = true := by
  show mayB n v = true
  unfold mayB
  rw [hn, hv.valueB hl]; rfl
theorem vHeads_ok (vs : List B) (i : Nat) : (∀ h ∈ vHeads i vs, keptH h = true ∧ mayH h = true) ∧ ofName (vHeads i vs) hostB = [] := by
  have ha := vHeads_are vs i
  refine ⟨fun h hh => ?_, ?_⟩
  · obtain ⟨j, hj, e, hs, hl⟩ := ha h hh
    obtain ⟨n, v⟩ := h
    dsimp only at e hs hl
    subst e
    exact ⟨(xName_ok j hj).1, seen_may (xName_ok j hj).2.1 hs hl⟩
  · unfold ofName
    rw [List.filter_eq_nil_iff]
    intro h hh
    obtain ⟨j, hj, e, -, -⟩ := ha h hh
    rw [e, (xName_ok j hj).2.2]; simp
theorem any_kept (l : List Hd) (h : ∀ x ∈ l, keptH x = true ∧ mayH x = true) (h16 : l.length ≤ 16) : ¬ (l.any fun h => !keptH h) = true ∧ checkH l = 0 := by
  refine ⟨?_, ?_⟩
  · rw [List.any_eq_true]
    rintro ⟨x, hx, e⟩
    rw [(h x hx).1] at e
    cases e
  · unfold checkH
    rw [if_neg (by omega), if_neg]
    rw [List.any_eq_true]
    rintro ⟨x, hx, e⟩
    rw [(h x hx).2] at e
    cases e
theorem metOf_method (n : Int) (h : ¬ (metOf n).isEmpty = true) : methodB (metOf n) = true := by
  have h0 : 0 ≤ n % 6 := Int.emod_nonneg _ (by decide)
  have h6 : n % 6 < 6 := Int.emod_lt_of_pos _ (by decide)
  have : ∀ i : Fin 6, (mets.getD i.val []).isEmpty = true ∨ methodB (mets.getD i.val []) = true := by decide +kernel
  rcases this ⟨(n % 6).toNat, by omega⟩ with e | e
  · exact absurd e h
  · exact e
theorem madeM_ok (x : Sd) : checkM (madeM x) = 0 := by
  have hv := vHeads_len x.vals 0
  obtain ⟨v1, v2⟩ := vHeads_ok x.vals 0
  unfold madeM
  split
  · next he =>
    obtain ⟨k1, k2⟩ := any_kept _ v1 (by omega)
    unfold checkM
    have h0 : 0 ≤ x.st % 500 := Int.emod_nonneg _ (by decide)
    have h5 : x.st % 500 < 500 := Int.emod_lt_of_pos _ (by decide)
    have hf : fineB [] [] (100 + x.st % 500) = true := by simp [fineB, statusB]; omega
    dsimp only
    rw [if_neg (by simp [hf]), if_neg k1, if_neg (by simp [k2]), if_neg (by simp; omega), if_neg (by simp [methodB])]
  · next he =>
    have hm := metOf_method x.me he
    have p1 := cleanF_seen 59 true x.pa [] (fun c hc => by cases hc)
    have p2 := cleanF_len 59 true x.pa [] (by simp)
    have p3 := cleanF_hash 59 x.pa [] (by simp)
    have q1 := cleanF_seen 50 false x.host [] (fun c hc => by cases hc)
    have q2 := cleanF_len 50 false x.host [] (by simp)
    have hp : pathB (47 :: cleanF 59 true [] x.pa) = true := by
      have e1 : Lib.hasPrefix (47 :: cleanF 59 true [] x.pa) [47] = true := by simp [Lib.hasPrefix]
      have e2 : visFrom 33 (47 :: cleanF 59 true [] x.pa) = true := by
        refine List.all_eq_true.2 fun c hc => ?_
        rcases List.mem_cons.1 hc with e | e
        · subst e; decide
        · have := p1 c e
          simp only [decide_eq_true_eq]; omega
      have e3 : Lib.indexByte (47 :: cleanF 59 true [] x.pa) 35 = -1 := indexByte_none _ _ (fun h => by
        rcases List.mem_cons.1 h with e | e
        · exact absurd e (by decide)
        · exact p3 e)
      unfold pathB
      rw [e1, e2, e3]
      simp; omega
    have hall : ∀ y ∈ (hostB, 104 :: cleanF 50 false [] x.host) :: vHeads 0 x.vals, keptH y = true ∧ mayH y = true := fun y hy => by
      rcases List.mem_cons.1 hy with e | e
      · subst e
        refine ⟨hostB_ok.1, seen_may hostB_ok.2.1 (fun c hc => ?_) (by simp; omega)⟩
        rcases List.mem_cons.1 hc with e | e
        · subst e; decide
        · exact q1 c e
      · exact v1 y e
    obtain ⟨k1, k2⟩ := any_kept _ hall (by simp only [List.length_cons]; omega)
    have ho : ofName ((hostB, 104 :: cleanF 50 false [] x.host) :: vHeads 0 x.vals) hostB = [(hostB, 104 :: cleanF 50 false [] x.host)] := by
      unfold ofName at v2 ⊢
      rw [List.filter_cons, if_pos hostB_ok.2.2, v2]
    unfold checkM
    have hf : fineB (metOf x.me) (47 :: cleanF 59 true [] x.pa) 0 = true := by simp [fineB, hm, hp]
    dsimp only
    rw [if_neg (by simp [hf]), if_neg k1, if_neg (by simp [k2]), if_neg (by simp; omega), ho, if_neg (by simp [firstV])]
end Go.Proofs.YtcognpibphpadaaGreatDoor
