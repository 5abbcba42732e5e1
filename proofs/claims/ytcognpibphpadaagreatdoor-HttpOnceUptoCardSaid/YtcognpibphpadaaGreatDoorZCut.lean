/- Plain: of bytes that are read as a message no beginning is; with bytes behind them they are read as none. -/
import Derived.Test.YtcognpibphpadaaGreatDoorZBack
set_option linter.unusedVariables false
set_option linter.unusedSimpArgs false
namespace Go.Proofs.YtcognpibphpadaaGreatDoor

theorem scan_take : ∀ (t : B) (i k j : Nat), scan i t = .ok j → i ≤ j ∧ j < i + t.length ∧ scan i (t.take k) = if j < i + k then .ok j else .error 3
  | [], i, k, j, h => by cases h
  | c :: t, i, k, j, h => by
    rw [scan] at h
    split at h
    · cases h
    · next h1 =>
      split at h
      · next h2 =>
        cases h
        refine ⟨Nat.le_refl _, by simp, ?_⟩
        cases k with
        | zero => rw [if_neg (by omega)]; rfl
        | succ k => rw [List.take_succ_cons, scan, if_neg h1, if_pos h2, if_pos (by omega)]
      · next h2 =>
        split at h
        · cases h
        · next h3 =>
          obtain ⟨x, x2, y⟩ := scan_take t (i + 1) (k - 1) j h
          refine ⟨by omega, by simp; omega, ?_⟩
          cases k with
          | zero => rw [if_neg (by omega)]; rfl
          | succ k =>
            rw [List.take_succ_cons, scan, if_neg h1, if_neg h2, if_neg h3]
            simp only [Nat.add_sub_cancel] at y
            rw [y]
            have e : (j < i + 1 + k) = (j < i + (k + 1)) := by rw [Nat.add_assoc, Nat.add_comm 1 k]
            simp only [e]
theorem scan_more : ∀ (t r : B) (i j : Nat), scan i t = .ok j → scan i (t ++ r) = .ok j
  | [], r, i, j, h => by cases h
  | c :: t, r, i, j, h => by
    rw [scan] at h
    rw [List.cons_append, scan]
    split at h
    · cases h
    · next h1 =>
      rw [if_neg h1]
      split at h
      · next h2 => rw [if_pos h2]; exact h
      · next h2 =>
        rw [if_neg h2]
        split at h
        · cases h
        · next h3 =>
          rw [if_neg h3]
          exact scan_more t r (i + 1) j h
theorem ends_facts {l : B} {a b : Nat} (h : endsAt l a = .ok b) : b = a + 2 ∧ l[a]? = some 13 ∧ l[a + 1]? = some 10 := by
  unfold endsAt at h
  split at h
  · next h1 =>
    split at h
    · next h2 =>
      split at h
      · next h3 =>
        split at h
        · next h4 =>
          cases h
          exact ⟨rfl, by rw [List.getElem?_eq_getElem h1, h2], by rw [List.getElem?_eq_getElem h3, h4]⟩
        · cases h
      · cases h
    · cases h
  · cases h
theorem ends_of {l : B} {a : Nat} (h0 : l[a]? = some 13) (h1 : l[a + 1]? = some 10) : endsAt l a = .ok (a + 2) := by
  obtain ⟨i0, e0⟩ := List.getElem?_eq_some_iff.1 h0
  obtain ⟨i1, e1⟩ := List.getElem?_eq_some_iff.1 h1
  unfold endsAt
  rw [dif_pos i0, if_pos e0, dif_pos i1, if_pos e1]
theorem ends_le {l : B} {a b : Nat} (h : endsAt l a = .ok b) : b = a + 2 ∧ b ≤ l.length := by
  obtain ⟨e, _, h1⟩ := ends_facts h
  obtain ⟨i1, _⟩ := List.getElem?_eq_some_iff.1 h1
  omega
theorem ends_take {l : B} {a b : Nat} (h : endsAt l a = .ok b) (k : Nat) : endsAt (l.take k) a = if b ≤ k then .ok b else .error 3 := by
  obtain ⟨e, h0, h1⟩ := ends_facts h
  obtain ⟨i0, e0⟩ := List.getElem?_eq_some_iff.1 h0
  obtain ⟨i1, e1⟩ := List.getElem?_eq_some_iff.1 h1
  subst e
  by_cases hk : a + 2 ≤ k
  · rw [if_pos hk]
    exact ends_of (by rw [List.getElem?_take_of_lt (by omega)]; exact h0) (by rw [List.getElem?_take_of_lt (by omega)]; exact h1)
  · rw [if_neg hk]
    unfold endsAt
    by_cases ha : a < (l.take k).length
    · have hl := ha
      rw [List.length_take] at hl
      rw [dif_pos ha, if_pos (by rw [List.getElem_take]; exact e0), dif_neg (by rw [List.length_take]; omega)]
    · rw [dif_neg ha]
theorem ends_more {l : B} {a b : Nat} (h : endsAt l a = .ok b) (r : B) : endsAt (l ++ r) a = .ok b := by
  obtain ⟨e, h0, h1⟩ := ends_facts h
  obtain ⟨i0, e0⟩ := List.getElem?_eq_some_iff.1 h0
  obtain ⟨i1, e1⟩ := List.getElem?_eq_some_iff.1 h1
  subst e
  exact ends_of (by rw [List.getElem?_append_left i0]; exact h0) (by rw [List.getElem?_append_left i1]; exact h1)
theorem line_facts {l : B} {a a' : Nat} {s : B} (h : lineAt l a = .ok (s, a')) : ∃ j, scan 0 (l.drop a) = .ok j ∧ endsAt l (a + j) = .ok a' ∧ s = (l.drop a).take j := by
  unfold lineAt at h
  split at h
  · cases h
  · next j hj =>
    split at h
    · cases h
    · next x hx =>
      cases h
      exact ⟨j, hj, hx, rfl⟩
theorem line_of {l : B} {a a' j : Nat} (h1 : scan 0 (l.drop a) = .ok j) (h2 : endsAt l (a + j) = .ok a') : lineAt l a = .ok ((l.drop a).take j, a') := by
  unfold lineAt
  rw [h1]
  dsimp only
  rw [h2]
theorem line_le {l : B} {a a' : Nat} {s : B} (h : lineAt l a = .ok (s, a')) : a + 2 ≤ a' ∧ a' ≤ l.length := by
  obtain ⟨j, h1, h2, h3⟩ := line_facts h
  have := ends_le h2
  omega
theorem line_take {l : B} {a a' : Nat} {s : B} (h : lineAt l a = .ok (s, a')) (k : Nat) : lineAt (l.take k) a = if a' ≤ k then .ok (s, a') else .error 3 := by
  obtain ⟨j, h1, h2, h3⟩ := line_facts h
  obtain ⟨x, x2, y⟩ := scan_take _ 0 (k - a) j h1
  have e := ends_le h2
  have hd : (l.take k).drop a = (l.drop a).take (k - a) := by rw [List.drop_take]
  rw [← hd] at y
  by_cases hj : j < 0 + (k - a)
  · rw [if_pos hj] at y
    have h4 := ends_take h2 k
    by_cases hk : a' ≤ k
    · rw [if_pos hk] at h4 ⊢
      rw [line_of y h4, hd, List.take_take, Nat.min_eq_left (by omega), h3]
    · rw [if_neg hk] at h4 ⊢
      unfold lineAt
      rw [y]
      dsimp only
      rw [h4]
  · rw [if_neg hj] at y
    rw [if_neg (by omega)]
    unfold lineAt
    rw [y]
theorem drop_more {l r : B} {a : Nat} (h : a ≤ l.length) : (l ++ r).drop a = l.drop a ++ r := List.drop_append_of_le_length h
theorem line_more {l : B} {a a' : Nat} {s : B} (h : lineAt l a = .ok (s, a')) (r : B) : lineAt (l ++ r) a = .ok (s, a') := by
  obtain ⟨j, h1, h2, h3⟩ := line_facts h
  have e := ends_le h2
  obtain ⟨x, x2, _⟩ := scan_take _ 0 0 j h1
  rw [List.length_drop] at x2
  have hd := drop_more (l := l) (r := r) (a := a) (by omega)
  rw [line_of (by rw [hd]; exact scan_more _ r 0 j h1) (ends_more h2 r), hd, List.take_append_of_le_length (by rw [List.length_drop]; omega), h3]

theorem first_facts {l : B} {a a' : Nat} {m p : B} {n : Int} (h : firstAt l a = .ok (m, p, n, a')) : ∃ s, lineAt l a = .ok (s, a') ∧ firstF s = some (m, p, n) := by
  unfold firstAt at h
  split at h
  · cases h
  · next s x hx =>
    split at h
    · cases h
    · next m' p' n' hf =>
      cases h
      exact ⟨s, hx, hf⟩
theorem first_le {l : B} {a a' : Nat} {m p : B} {n : Int} (h : firstAt l a = .ok (m, p, n, a')) : a ≤ a' ∧ a' ≤ l.length := by
  obtain ⟨s, h1, h2⟩ := first_facts h
  have := line_le h1
  omega
theorem first_take {l : B} {a a' : Nat} {m p : B} {n : Int} (h : firstAt l a = .ok (m, p, n, a')) (k : Nat) : firstAt (l.take k) a = if a' ≤ k then .ok (m, p, n, a') else .error 3 := by
  obtain ⟨s, h1, h2⟩ := first_facts h
  unfold firstAt
  rw [line_take h1 k]
  by_cases hk : a' ≤ k
  · rw [if_pos hk, if_pos hk]
    dsimp only
    rw [h2]
  · rw [if_neg hk, if_neg hk]
theorem first_more {l : B} {a a' : Nat} {m p : B} {n : Int} (h : firstAt l a = .ok (m, p, n, a')) (r : B) : firstAt (l ++ r) a = .ok (m, p, n, a') := by
  obtain ⟨s, h1, h2⟩ := first_facts h
  unfold firstAt
  rw [line_more h1 r]
  dsimp only; rw [h2]

theorem heads_le (l : B) : ∀ (n a a1 : Nat) (raw hs : List Hd), headsF l n a raw = .ok (hs, a1) → a ≤ a1 ∧ a1 ≤ l.length
  | 0, a, a1, raw, hs, h => by cases h
  | n + 1, a, a1, raw, hs, h => by
    rw [headsF] at h
    split at h
    · cases h
    · next s a' hl =>
      have := line_le hl
      split at h
      · cases h; omega
      · split at h
        · cases h
        · split at h
          · cases h
          · have := heads_le l n a' a1 _ hs h
            omega
theorem heads_take (l : B) (k : Nat) : ∀ (n a a1 : Nat) (raw hs : List Hd), headsF l n a raw = .ok (hs, a1) → headsF (l.take k) n a raw = if a1 ≤ k then .ok (hs, a1) else .error 3
  | 0, a, a1, raw, hs, h => by cases h
  | n + 1, a, a1, raw, hs, h => by
    rw [headsF] at h ⊢
    split at h
    · cases h
    · next s a' hl =>
      rw [line_take hl k]
      split at h
      · next h1 =>
        cases h
        by_cases hk : a1 ≤ k
        · rw [if_pos hk, if_pos hk]
          dsimp only
          rw [if_pos h1]
        · rw [if_neg hk, if_neg hk]
      · next h1 =>
        split at h
        · cases h
        · next h2 =>
          split at h
          · cases h
          · next hd hh =>
            have hle := heads_le l n a' a1 _ hs h
            by_cases hk : a' ≤ k
            · rw [if_pos hk]
              dsimp only
              rw [if_neg h1, if_neg h2, hh]
              exact heads_take l k n a' a1 _ hs h
            · rw [if_neg hk, if_neg (by omega)]
theorem heads_more (l r : B) : ∀ (n a a1 : Nat) (raw hs : List Hd), headsF l n a raw = .ok (hs, a1) → headsF (l ++ r) n a raw = .ok (hs, a1)
  | 0, a, a1, raw, hs, h => by cases h
  | n + 1, a, a1, raw, hs, h => by
    rw [headsF] at h ⊢
    split at h
    · cases h
    · next s a' hl =>
      rw [line_more hl r]
      dsimp only
      split at h
      · next h1 => rw [if_pos h1]; exact h
      · next h1 =>
        rw [if_neg h1]
        split at h
        · cases h
        · next h2 =>
          rw [if_neg h2]
          split at h
          · cases h
          · next hd hh => exact heads_more l r n a' a1 _ hs h

theorem drop_take_in {l : B} {a n k : Nat} (h : a + n ≤ k) : ((l.take k).drop a).take n = (l.drop a).take n := by
  rw [List.drop_take, List.take_take, Nat.min_eq_left (by omega)]
theorem body_le (l : B) : ∀ (n a a2 : Nat) (b body : B), bodyF l n a b = .ok (body, a2) → a ≤ a2 ∧ a2 ≤ l.length
  | 0, a, a2, b, body, h => by cases h
  | n + 1, a, a2, b, body, h => by
    rw [bodyF] at h
    split at h
    · cases h
    · next s a1 hl =>
      have h1 := line_le hl
      split at h
      · cases h
      · next d hd =>
        split at h
        · cases h
        · split at h
          · cases h
          · split at h
            · cases h
            · next x hx =>
              have h2 := ends_le hx
              split at h
              · cases h; omega
              · have := body_le l n x a2 _ body h
                omega
theorem body_take (l : B) (k : Nat) : ∀ (n a a2 : Nat) (b body : B), bodyF l n a b = .ok (body, a2) → bodyF (l.take k) n a b = if a2 ≤ k then .ok (body, a2) else .error 3
  | 0, a, a2, b, body, h => by cases h
  | n + 1, a, a2, b, body, h => by
    rw [bodyF] at h ⊢
    split at h
    · cases h
    · next s a1 hl =>
      rw [line_take hl k]
      split at h
      · cases h
      · next d hd =>
        split at h
        · cases h
        · next h2000 =>
          split at h
          · cases h
          · next hlen =>
            split at h
            · cases h
            · next x hx =>
              have h2 := ends_le hx
              have hle : x ≤ a2 := by
                split at h
                · cases h; omega
                · exact (body_le l n x a2 _ body h).1
              by_cases hk : a1 ≤ k
              · rw [if_pos hk]
                dsimp only
                rw [hd]
                dsimp only
                rw [if_neg h2000]
                by_cases hk2 : a1 + d.toNat ≤ k
                · rw [if_neg (by rw [List.length_take]; omega), ends_take hx k]
                  by_cases hk3 : x ≤ k
                  · rw [if_pos hk3]
                    dsimp only
                    rw [drop_take_in hk2]
                    split at h
                    · next h0 =>
                      cases h
                      rw [if_pos h0, if_pos hk3]
                    · next h0 =>
                      rw [if_neg h0]
                      exact body_take l k n x a2 _ body h
                  · rw [if_neg hk3, if_neg (by omega)]
                · rw [if_pos (by rw [List.length_take]; omega), if_neg (by omega)]
              · rw [if_neg hk, if_neg (by omega)]
theorem body_more (l r : B) : ∀ (n a a2 : Nat) (b body : B), bodyF l n a b = .ok (body, a2) → bodyF (l ++ r) n a b = .ok (body, a2)
  | 0, a, a2, b, body, h => by cases h
  | n + 1, a, a2, b, body, h => by
    rw [bodyF] at h ⊢
    split at h
    · cases h
    · next s a1 hl =>
      have h1 := line_le hl
      rw [line_more hl r]
      dsimp only
      split at h
      · cases h
      · next d hd =>
        split at h
        · cases h
        · next h2000 =>
          rw [if_neg h2000]
          split at h
          · cases h
          · next hlen =>
            rw [if_neg (by rw [List.length_append]; omega)]
            split at h
            · cases h
            · next x hx =>
              rw [ends_more hx r]
              dsimp only
              rw [drop_more h1.2, List.take_append_of_le_length (by rw [List.length_drop]; omega)]
              split at h
              · next h0 => rw [if_pos h0]; exact h
              · next h0 =>
                rw [if_neg h0]
                exact body_more l r n x a2 _ body h
theorem all_le {l : B} {size : Int} {a a2 : Nat} {body : B} (h : bodyAll l size a = .ok (body, a2)) (ha : a ≤ l.length) : a ≤ a2 ∧ a2 ≤ l.length := by
  unfold bodyAll at h
  split at h
  · exact body_le l _ a a2 _ body h
  · split at h
    · cases h
    · cases h; omega
theorem all_take {l : B} {size : Int} {a a2 : Nat} {body : B} (h : bodyAll l size a = .ok (body, a2)) (k : Nat) (ha : a ≤ k) : bodyAll (l.take k) size a = if a2 ≤ k then .ok (body, a2) else .error 3 := by
  unfold bodyAll at h ⊢
  split at h
  · next h1 =>
    rw [if_pos h1]
    exact body_take l k _ a a2 _ body h
  · next h1 =>
    rw [if_neg h1]
    split at h
    · cases h
    · next h2 =>
      cases h
      by_cases hk : a + size.toNat ≤ k
      · rw [if_neg (by rw [List.length_take]; omega), if_pos hk, drop_take_in hk]
      · rw [if_pos (by rw [List.length_take]; omega), if_neg hk]
theorem all_more {l : B} {size : Int} {a a2 : Nat} {body : B} (h : bodyAll l size a = .ok (body, a2)) (ha : a ≤ l.length) (r : B) : bodyAll (l ++ r) size a = .ok (body, a2) := by
  unfold bodyAll at h ⊢
  split at h
  · next h1 =>
    rw [if_pos h1]
    exact body_more l r _ a a2 _ body h
  · next h1 =>
    rw [if_neg h1]
    split at h
    · cases h
    · next h2 =>
      cases h
      rw [if_neg (by rw [List.length_append]; omega), drop_more ha, List.take_append_of_le_length (by rw [List.length_drop]; omega)]

/-- How bytes came to be read as a message. -/
theorem parse_facts {l : B} {m : Msg} (h : parseF l = .ok m) : l.length ≤ 8192 ∧ ∃ a a1 a2 raw size, firstAt l 0 = .ok (m.me, m.pa, m.st, a) ∧ headsF l 21 a [] = .ok (raw, a1) ∧ frameF raw = .ok (size, m.hs) ∧ bodyAll l size a1 = .ok (m.body, a2) ∧ l.length ≤ a2 ∧ checkM m = 0 := by
  unfold parseF at h
  split at h
  · cases h
  · next hlen =>
    split at h
    · cases h
    · next me pa st a h1 =>
      split at h
      · cases h
      · next raw a1 h2 =>
        split at h
        · cases h
        · next size heads h3 =>
          split at h
          · cases h
          · next body a2 h4 =>
            split at h
            · cases h
            · next u h5 =>
              cases h
              unfold lastF at h5
              split at h5
              · cases h5
              · next h6 =>
                split at h5
                · next h7 => exact ⟨by omega, a, a1, a2, raw, size, h1, h2, h3, h4, by omega, h7⟩
                · cases h5
theorem parse_ok_check {l : B} {m : Msg} (h : parseF l = .ok m) : checkM m = 0 := (parse_facts h).2.choose_spec.choose_spec.choose_spec.choose_spec.choose_spec.2.2.2.2.2
theorem parse_cut {l : B} {m : Msg} (h : parseF l = .ok m) (k : Nat) (hk : k < l.length) : parseF (l.take k) = .error 3 := by
  obtain ⟨h0, a, a1, a2, raw, size, h1, h2, h3, h4, h5, h6⟩ := parse_facts h
  have hl : ¬ 8192 < (l.take k).length := by rw [List.length_take]; omega
  unfold parseF
  rw [if_neg hl, first_take h1 k]
  by_cases k1 : a ≤ k
  · rw [if_pos k1]
    dsimp only
    rw [heads_take l k 21 a a1 [] raw h2]
    by_cases k2 : a1 ≤ k
    · rw [if_pos k2]
      dsimp only
      rw [h3]
      dsimp only
      rw [all_take h4 k k2, if_neg (by omega)]
    · rw [if_neg k2]
  · rw [if_neg k1]
theorem parse_more {l : B} {m : Msg} (h : parseF l = .ok m) (r : B) (hr : r ≠ []) : parseF (l ++ r) = .error (if 8192 < (l ++ r).length then 5 else 4) := by
  obtain ⟨h0, a, a1, a2, raw, size, h1, h2, h3, h4, h5, h6⟩ := parse_facts h
  have hr2 : 0 < r.length := by cases r with | nil => exact absurd rfl hr | cons => simp
  have ha1 := (heads_le l 21 a a1 [] raw h2).2
  have ha2 := (all_le h4 ha1).2
  unfold parseF
  by_cases hl : 8192 < (l ++ r).length
  · rw [if_pos hl, if_pos hl]
  · rw [if_neg hl, if_neg hl, first_more h1 r]
    dsimp only
    rw [heads_more l r 21 a a1 [] raw h2]
    dsimp only
    rw [h3]
    dsimp only
    rw [all_more h4 ha1 r]
    dsimp only
    have e : lastF (l ++ r) a2 ⟨m.me, m.pa, m.st, m.hs, m.body⟩ = .error 4 := by
      unfold lastF
      rw [if_pos (by rw [List.length_append]; omega)]
    rw [e]
end Go.Proofs.YtcognpibphpadaaGreatDoor
