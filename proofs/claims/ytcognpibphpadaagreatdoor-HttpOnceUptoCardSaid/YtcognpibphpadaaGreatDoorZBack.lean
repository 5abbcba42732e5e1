/- Plain: what is read of the bytes of a message that may be is that message: with a length, and in chunks. -/
import Derived.Test.YtcognpibphpadaaGreatDoorZLawc
import Derived.Shelf.Strconv.Itoa3
set_option linter.unusedVariables false
set_option linter.unusedSimpArgs false
namespace Go.Proofs.YtcognpibphpadaaGreatDoor

/-- A digit. -/
def dg (n : Nat) : UInt8 := UInt8.ofNat (48 + n)
def decB (n : Nat) : B := if n < 10 then [dg n] else if n < 100 then [dg (n / 10), dg (n % 10)] else if n < 1000 then [dg (n / 100), dg (n / 10 % 10), dg (n % 10)] else [dg (n / 1000), dg (n / 100 % 10), dg (n / 10 % 10), dg (n % 10)]
theorem dec1 {n : Nat} (h : n < 10) : Lib.decDigits n = [dg n] := Lib.decDigits_one h
theorem dec2 {n : Nat} (h0 : ¬ n < 10) (h : n < 100) : Lib.decDigits n = [dg (n / 10), dg (n % 10)] := by rw [Lib.decDigits, dif_neg h0, dec1 (by omega)]; rfl
theorem dec3 {n : Nat} (h0 : ¬ n < 100) (h : n < 1000) : Lib.decDigits n = [dg (n / 100), dg (n / 10 % 10), dg (n % 10)] := by
  rw [Lib.decDigits, dif_neg (by omega), dec2 (by omega) (by omega), Nat.div_div_eq_div_mul]; rfl
theorem dec4 {n : Nat} (h0 : ¬ n < 1000) (h : n < 10000) : Lib.decDigits n = [dg (n / 1000), dg (n / 100 % 10), dg (n / 10 % 10), dg (n % 10)] := by
  rw [Lib.decDigits, dif_neg (by omega), dec3 (by omega) (by omega), Nat.div_div_eq_div_mul, Nat.div_div_eq_div_mul]; rfl
theorem itoa_dec (n : Nat) (h : n < 10000) : Lib.itoa (n : Int) = decB n := by
  unfold Lib.itoa
  rw [if_neg (by omega), Int.toNat_natCast]
  unfold decB
  split
  · next h0 => exact dec1 h0
  · next h0 =>
    split
    · next h1 => exact dec2 h0 h1
    · next h1 =>
      split
      · next h2 => exact dec3 h1 h2
      · next h2 => exact dec4 h2 h
theorem digF_dec (n : Nat) (h : n ≤ 2000) : digF 10 (decB n) = some (n : Int) := by
  have : ∀ i : Fin 2001, digF 10 (decB i.val) = some (i.val : Int) := by decide +kernel
  exact this ⟨n, by omega⟩
theorem dec_noEnd (n : Nat) (h : n ≤ 2000) : NoEnd (decB n) ∧ (decB n).length ≤ 4 ∧ ((decB n).all fun c => decide (48 ≤ c.toNat ∧ c.toNat ≤ 57)) = true ∧ decB n ≠ [] := by
  have : ∀ i : Fin 2001, (∀ c ∈ decB i.val, c ≠ 10 ∧ c ≠ 13) ∧ (decB i.val).length ≤ 4 ∧ ((decB i.val).all fun c => decide (48 ≤ c.toNat ∧ c.toNat ≤ 57)) = true ∧ decB i.val ≠ [] := by decide +kernel
  exact this ⟨n, by omega⟩

/-- The word of a status. -/
def wordB (n : Int) : B :=
  if n = 200 then [79, 75] else if n = 400 then [66, 97, 100, 32, 82, 101, 113, 117, 101, 115, 116] else if n = 403 then [70, 111, 114, 98, 105, 100, 100, 101, 110] else if n = 404 then [78, 111, 116, 32, 70, 111, 117, 110, 100]
  else if n = 503 then [83, 101, 114, 118, 105, 99, 101, 32, 85, 110, 97, 118, 97, 105, 108, 97, 98, 108, 101] else if n = 504 then [71, 97, 116, 101, 119, 97, 121, 32, 84, 105, 109, 101, 111, 117, 116] else [79, 116, 104, 101, 114]
def startS (n : Nat) : B := verSp ++ decB n ++ 32 :: wordB (n : Int)
def startM (m : Msg) : B := if m.st = 0 then m.me ++ 32 :: (m.pa ++ 32 :: ver) else startS m.st.toNat
def hLine (h : Hd) : B := h.1 ++ 58 :: 32 :: h.2
/-- A message with a line that tells of its body, and what stands behind. -/
def writtenM (m : Msg) (frame behind : B) : B := startM m ++ 13 :: 10 :: (wLines (m.hs.map hLine ++ [frame]) ++ 13 :: 10 :: behind)
def lenLine (n : Nat) : B := lenB ++ 58 :: 32 :: decB n
def codLine : B := codB ++ 58 :: 32 :: chuB
def bytesM (m : Msg) : B := writtenM m (lenLine m.body.length) m.body

theorem startS_ok (n : Nat) (h0 : 100 ≤ n) (h : n ≤ 599) : firstF (startS n) = some ([], [], (n : Int)) ∧ NoEnd (startS n) ∧ (startS n).length ≤ 40 := by
  have : ∀ i : Fin 500, firstF (startS (100 + i.val)) = some ([], [], ((100 + i.val : Nat) : Int)) ∧ (∀ c ∈ startS (100 + i.val), c ≠ 10 ∧ c ≠ 13) ∧ (startS (100 + i.val)).length ≤ 40 := by decide +kernel
  have e : 100 + (n - 100) = n := by omega
  have h2 := this ⟨n - 100, by omega⟩
  dsimp only at h2
  rw [e] at h2
  exact h2
theorem splitSp_blank : ∀ (a t : B), (∀ c ∈ a, c ≠ 32) → splitSp (a ++ 32 :: t) = a :: splitSp t
  | [], t, _ => by simp [splitSp]
  | c :: r, t, h => by
    rw [List.cons_append, splitSp, if_neg (h c (by simp)), splitSp_blank r t (fun x hx => h x (by simp [hx]))]
theorem method_cases {me : B} (h : methodB me = true) : me = [71, 69, 84] ∨ me = [80, 85, 84] ∨ me = [80, 79, 83, 84] ∨ me = [68, 69, 76, 69, 84, 69] ∨ me = [72, 69, 65, 68] := by
  simp only [methodB, Bool.or_eq_true, beq_iff_eq] at h
  rcases h with (((h | h) | h) | h) | h <;> simp [h]
theorem path_facts {pa : B} (h : pathB pa = true) : pa.length ≤ 60 ∧ ∀ c ∈ pa, 33 ≤ c.toNat ∧ c.toNat ≤ 126 := by
  simp only [pathB, Bool.and_eq_true, decide_eq_true_eq] at h
  refine ⟨h.2.1, fun c hc => ?_⟩
  have := List.all_eq_true.1 h.2.2.1 c hc
  simp only [decide_eq_true_eq] at this
  omega
theorem startR_ok (me pa : B) (hm : methodB me = true) (hp : pathB pa = true) : firstF (me ++ 32 :: (pa ++ 32 :: ver)) = some (me, pa, 0) ∧ NoEnd (me ++ 32 :: (pa ++ 32 :: ver)) ∧ (me ++ 32 :: (pa ++ 32 :: ver)).length ≤ 80 := by
  obtain ⟨hl, hc⟩ := path_facts hp
  have hs : splitSp (me ++ 32 :: (pa ++ 32 :: ver)) = [me, pa, ver] := by
    rw [splitSp_blank me, splitSp_blank pa]
    · rfl
    · intro c h e
      have := hc c h
      subst e; exact absurd this.1 (by decide)
    · rcases method_cases hm with e | e | e | e | e <;> subst e <;> decide
  have hpre : Lib.hasPrefix (me ++ 32 :: (pa ++ 32 :: ver)) verSp = false := by
    rcases method_cases hm with e | e | e | e | e <;> subst e <;> rfl
  refine ⟨?_, ?_, ?_⟩
  · unfold firstF
    rw [if_neg (by simp [hpre]), hs]
    dsimp only
    rw [hm, hp, if_pos (by simp)]
  · intro c h
    rcases List.mem_append.1 h with h | h
    · have : NoEnd me := by unfold NoEnd; rcases method_cases hm with e | e | e | e | e <;> subst e <;> decide +kernel
      exact this c h
    · rcases List.mem_cons.1 h with e | h
      · subst e; decide
      · rcases List.mem_append.1 h with h | h
        · have := hc c h
          exact ⟨fun e => by subst e; exact absurd this.1 (by decide), fun e => by subst e; exact absurd this.1 (by decide)⟩
        · have : NoEnd (32 :: ver) := by unfold NoEnd; decide +kernel
          exact this c h
  · have : me.length ≤ 6 := by rcases method_cases hm with e | e | e | e | e <;> subst e <;> decide
    have : ver.length = 8 := rfl
    simp; omega

theorem dropWhile_first {p : UInt8 → Bool} : ∀ (l : B) (c : UInt8) (t : B), l.dropWhile p = c :: t → p c = false
  | [], c, t, h => by cases h
  | x :: r, c, t, h => by
    rw [List.dropWhile_cons] at h
    split at h
    · exact dropWhile_first r c t h
    · next hx =>
      simp only [List.cons.injEq] at h
      rw [← h.1]; simpa using hx
theorem dropWhile_le {p : UInt8 → Bool} : ∀ (l : B), (l.dropWhile p).length ≤ l.length
  | [] => Nat.le_refl _
  | x :: r => by
    rw [List.dropWhile_cons]
    split
    · have := dropWhile_le (p := p) r
      simp; omega
    · exact Nat.le_refl _
theorem dropWhile_full {p : UInt8 → Bool} (l : B) (h : (l.dropWhile p).length = l.length) : l.dropWhile p = l := by
  cases l with
  | nil => rfl
  | cons x r =>
    rw [List.dropWhile_cons] at h ⊢
    split
    · next hx =>
      rw [if_pos hx] at h
      have := dropWhile_le (p := p) r
      simp at h; omega
    · rfl
theorem value_facts {v : B} (h : valueB v = true) : v.length ≤ 200 ∧ (∀ c ∈ v, 32 ≤ c.toNat ∧ c.toNat ≤ 126) ∧ Trimmed v := by
  simp only [valueB, Bool.and_eq_true, decide_eq_true_eq, beq_iff_eq] at h
  obtain ⟨⟨h1, h2⟩, h3⟩ := h
  have hv : ∀ c ∈ v, 32 ≤ c.toNat ∧ c.toNat ≤ 126 := fun c hc => by
    have := List.all_eq_true.1 h2 c hc
    simpa [vis] using this
  have h4 : Lib.trimLeftB (Lib.trimRightB v 32) 32 = v := h3
  have hlen1 : v.length ≤ (Lib.trimRightB v 32).length := by
    have h5 := dropWhile_le (p := (· == (32 : UInt8))) (Lib.trimRightB v 32)
    have h6 : (List.dropWhile (fun x => x == (32 : UInt8)) (Lib.trimRightB v 32)).length = v.length := congrArg List.length h4
    omega
  have hlen2 := dropWhile_le (p := (· == (32 : UInt8))) v.reverse
  have e1 : (Lib.trimRightB v 32).length = (v.reverse.dropWhile (· == (32 : UInt8))).length := by unfold Lib.trimRightB; simp
  have hr : v.reverse.dropWhile (· == (32 : UInt8)) = v.reverse := dropWhile_full _ (by rw [List.length_reverse] at hlen2 ⊢; omega)
  refine ⟨h1, hv, ⟨fun c hc e => ?_, fun e => ?_, fun hp e => ?_⟩⟩
  · have := hv c hc
    subst e; exact absurd this.1 (by decide)
  · cases v with
    | nil => cases e
    | cons x t =>
      simp only [List.getElem?_cons_zero, Option.some.injEq] at e
      subst e
      have := dropWhile_first (p := (· == (32 : UInt8))) _ _ _ h4
      simp at this
  · have e2 : v.reverse.head? = some 32 := by
      rw [List.head?_reverse, List.getLast?_eq_getElem?]
      exact e
    cases hv2 : v.reverse with
    | nil => rw [hv2] at e2; cases e2
    | cons x t =>
      rw [hv2] at e2 hr
      simp only [List.head?_cons, Option.some.injEq] at e2
      subst e2
      have := dropWhile_first (p := (· == (32 : UInt8))) _ _ _ hr
      simp at this
theorem fold_facts {n : B} (h : (foldF n).isSome = true) : 1 ≤ n.length ∧ n.length ≤ 30 ∧ ∀ c ∈ n, c ≠ 10 ∧ c ≠ 13 ∧ c ≠ 58 := by
  unfold foldF at h
  split at h
  · next hc =>
    refine ⟨hc.1, hc.2.1, fun c hcc => ?_⟩
    have := hc.2.2 c hcc
    refine ⟨fun e => ?_, fun e => ?_, fun e => ?_⟩ <;> subst e <;> exact this (by decide)
  · cases h
theorem may_line {h : Hd} (hm : mayH h = true) : lineH (hLine h) = some h ∧ NoEnd (hLine h) ∧ (hLine h).length ≤ 232 ∧ hLine h ≠ [] := by
  obtain ⟨n, v⟩ := h
  have hm2 : mayB n v = true := hm
  have hm3 := hm2
  simp only [mayB, Bool.and_eq_true] at hm3
  obtain ⟨n1, n30, nc⟩ := fold_facts hm3.1
  obtain ⟨v200, vc, vt⟩ := value_facts hm3.2
  refine ⟨lineH_of n v (fun h => (nc 58 h).2.2 rfl) vt hm2 (by omega), fun c hc => ?_, by simp [hLine]; omega, by simp [hLine]⟩
  rcases List.mem_append.1 hc with hc | hc
  · exact ⟨(nc c hc).1, (nc c hc).2.1⟩
  · simp only [List.mem_cons] at hc
    rcases hc with rfl | rfl | hc
    · decide
    · decide
    · have := vc c hc
      exact ⟨fun e => by subst e; exact absurd this.1 (by decide), fun e => by subst e; exact absurd this.1 (by decide)⟩

theorem frame_kept : ∀ (raw : List Hd) (f : FS), (∀ h ∈ raw, keptH h = true) → raw.foldl frameStep f = { f with heads := f.heads ++ raw }
  | [], f, _ => by simp
  | h :: t, f, hk => by
    have h1 : keptB h.1 = true := hk h (by simp)
    have h2 := h1
    simp only [keptB, Bool.and_eq_true, Bool.not_eq_true'] at h2
    have e : frameStep f h = { f with heads := f.heads ++ [h] } := by
      unfold frameStep
      rw [if_neg (by simp [h2.1.1]), if_neg (by simp [h2.1.2]), if_pos h1]
    rw [List.foldl_cons, e, frame_kept t _ (fun x hx => hk x (by simp [hx]))]
    simp
theorem frame_len (hs : List Hd) (n : Nat) (hn : n ≤ 2000) (hk : ∀ h ∈ hs, keptH h = true) : frameF (hs ++ [(lenB, decB n)]) = .ok ((n : Int), hs) := by
  have e : frameAll (hs ++ [(lenB, decB n)]) = ⟨1, true, n, hs⟩ := by
    unfold frameAll
    rw [List.foldl_append, frame_kept hs _ hk, List.foldl_cons, List.foldl_nil]
    unfold frameStep
    rw [if_pos (by kernel_rfl), digF_dec n hn]
    simp
  unfold frameF
  rw [e]
  simp; omega
theorem frame_cod (hs : List Hd) (hk : ∀ h ∈ hs, keptH h = true) : frameF (hs ++ [(codB, chuB)]) = .ok (-1, hs) := by
  have e : frameAll (hs ++ [(codB, chuB)]) = ⟨1, true, -1, hs⟩ := by
    unfold frameAll
    rw [List.foldl_append, frame_kept hs _ hk, List.foldl_cons, List.foldl_nil]
    unfold frameStep
    rw [if_neg (by decide +kernel), if_pos (by kernel_rfl)]
    have : (List.map lowB chuB == chuB) = true := by decide +kernel
    simp [this]
  unfold frameF
  rw [e]
  simp

theorem lenLine_ok (n : Nat) (h : n ≤ 2000) : lineH (lenLine n) = some (lenB, decB n) ∧ NoEnd (lenLine n) ∧ (lenLine n).length ≤ 22 ∧ lenLine n ≠ [] := by
  obtain ⟨h1, h2, h3, h4⟩ := dec_noEnd n h
  have hd : ∀ c ∈ decB n, 48 ≤ c.toNat ∧ c.toNat ≤ 57 := fun c hc => by have := List.all_eq_true.1 h3 c hc; simpa using this
  have hs : Seen (decB n) := fun c hc => by have := hd c hc; omega
  refine ⟨lineH_of _ _ (by decide) hs.trimmed (by unfold mayB; rw [hs.valueB (by omega)]; decide +kernel) (by have : lenB.length = 14 := rfl; omega), fun c hc => ?_, by have : lenB.length = 14 := rfl; simp [lenLine]; omega, by simp [lenLine]⟩
  rcases List.mem_append.1 hc with hc | hc
  · have : NoEnd lenB := by unfold NoEnd; decide +kernel
    exact this c hc
  · simp only [List.mem_cons] at hc
    rcases hc with rfl | rfl | hc
    · decide
    · decide
    · exact h1 c hc
theorem codLine_ok : lineH codLine = some (codB, chuB) ∧ NoEnd codLine ∧ codLine.length ≤ 28 ∧ codLine ≠ [] := ⟨by kernel_rfl, by unfold NoEnd; decide +kernel, by decide, by decide⟩

/-- What the check tells. -/
structure May (m : Msg) : Prop where
  fine : (methodB m.me = true ∧ pathB m.pa = true ∧ m.st = 0) ∨ (m.me = [] ∧ m.pa = [] ∧ 100 ≤ m.st ∧ m.st ≤ 599)
  kept : ∀ h ∈ m.hs, keptH h = true
  may : ∀ h ∈ m.hs, mayH h = true
  n : m.hs.length ≤ 16
  body : m.body.length ≤ 2000
theorem may_of {m : Msg} (h : checkM m = 0) : May m := by
  unfold checkM at h
  split at h
  · cases h
  · next h1 =>
    split at h
    · cases h
    · next h2 =>
      split at h
      · cases h
      · next h3 =>
        split at h
        · cases h
        · next h4 =>
          have h3 : checkH m.hs = 0 := by simpa using h3
          unfold checkH at h3
          split at h3
          · cases h3
          · next h5 =>
            split at h3
            · cases h3
            · next h6 =>
              refine ⟨?_, fun x hx => ?_, fun x hx => ?_, by omega, by omega⟩
              · have h1 : fineB m.me m.pa m.st = true := by simpa using h1
                simp only [fineB, Bool.or_eq_true, Bool.and_eq_true, beq_iff_eq, List.isEmpty_iff, statusB, decide_eq_true_eq] at h1
                rcases h1 with ⟨⟨a, b⟩, c⟩ | ⟨⟨a, b⟩, c⟩
                · exact .inl ⟨a, b, c⟩
                · exact .inr ⟨a, b, c.1, c.2⟩
              · simp only [Bool.not_eq_true, List.any_eq_false, Bool.not_eq_true'] at h2
                have := h2 x hx
                simpa using this
              · simp only [Bool.not_eq_true, List.any_eq_false, Bool.not_eq_true'] at h6
                have := h6 x hx
                simpa using this
theorem May.first {m : Msg} (h : May m) : firstF (startM m) = some (m.me, m.pa, m.st) ∧ NoEnd (startM m) ∧ (startM m).length ≤ 80 := by
  unfold startM
  rcases h.fine with ⟨a, b, c⟩ | ⟨a, b, c, d⟩
  · rw [if_pos c, c]
    exact startR_ok _ _ a b
  · rw [if_neg (by omega), a, b]
    obtain ⟨x, y, z⟩ := startS_ok m.st.toNat (by omega) (by omega)
    rw [x]
    refine ⟨?_, y, by omega⟩
    rw [show ((m.st.toNat : Nat) : Int) = m.st by omega]
/-- What is read of a message's bytes up to its body. -/
theorem written_reads {m : Msg} (h : May m) (fh : Hd) (frame behind : B) (hf : lineH frame = some fh ∧ NoEnd frame ∧ frame.length ≤ 28 ∧ frame ≠ []) :
    ∃ a a1, firstAt (writtenM m frame behind) 0 = .ok (m.me, m.pa, m.st, a) ∧ headsF (writtenM m frame behind) 21 a [] = .ok (m.hs ++ [fh], a1) ∧ (writtenM m frame behind).drop a1 = behind ∧ a1 ≤ 4500 ∧ (writtenM m frame behind).length = a1 + behind.length := by
  obtain ⟨f1, f2, f3⟩ := h.first
  obtain ⟨g1, g2, g3, g4⟩ := hf
  obtain ⟨l1, l2⟩ := lineAt_of (l := writtenM m frame behind) (a := 0) (t := startM m) (rest := wLines (m.hs.map hLine ++ [frame]) ++ 13 :: 10 :: behind) (by rw [List.drop_zero]; rfl) f2 (by omega)
  have hm : (m.hs.map hLine ++ [frame]).map lineH = (m.hs ++ [fh]).map some := by
    rw [List.map_append, List.map_append, List.map_map]
    congr 1
    · exact List.map_congr_left fun x hx => (may_line (h.may x hx)).1
    · simp [g1]
  have hall : ∀ t ∈ m.hs.map hLine ++ [frame], NoEnd t ∧ t.length ≤ 232 ∧ t ≠ [] := fun t ht => by
    rcases List.mem_append.1 ht with ht | ht
    · obtain ⟨x, hx, rfl⟩ := List.mem_map.1 ht
      exact (may_line (h.may x hx)).2
    · simp only [List.mem_singleton] at ht
      subst ht
      exact ⟨g2, by omega, g4⟩
  have hn := h.n
  obtain ⟨h1, h2⟩ := headsF_of (writtenM m frame behind) _ (m.hs ++ [fh]) 21 _ [] behind hm (fun t ht => ⟨(hall t ht).1, Nat.le_trans (hall t ht).2.1 (by decide), (hall t ht).2.2⟩) l2 (by simp; omega) (by simp; omega)
  have hw := wl_le 232 (m.hs.map hLine ++ [frame]) (fun t ht => (hall t ht).2.1)
  have hwl : (m.hs.map hLine ++ [frame]).length ≤ 17 := by simp; omega
  have hmul : (m.hs.map hLine ++ [frame]).length * (232 + 2) ≤ 17 * 234 := Nat.mul_le_mul hwl (Nat.le_refl _)
  refine ⟨_, _, ?_, by rw [h1]; rfl, h2, by omega, ?_⟩
  · unfold firstAt
    rw [l1]
    dsimp only
    rw [f1]
  · have := congrArg List.length h2
    rw [List.length_drop] at this
    simp only [writtenM, List.length_append, List.length_cons] at this ⊢
    omega
theorem parse_back {m : Msg} (h : checkM m = 0) : parseF (bytesM m) = .ok m := by
  have hm := may_of h
  obtain ⟨a, a1, h1, h2, h3, h4, h5⟩ := written_reads hm (lenB, decB m.body.length) (lenLine m.body.length) m.body ⟨(lenLine_ok _ hm.body).1, (lenLine_ok _ hm.body).2.1, Nat.le_trans (lenLine_ok _ hm.body).2.2.1 (by decide), (lenLine_ok _ hm.body).2.2.2⟩
  have hb := hm.body
  have e : bytesM m = writtenM m (lenLine m.body.length) m.body := rfl
  rw [← e] at h1 h2 h3 h5
  unfold parseF
  rw [if_neg (by omega), h1]
  dsimp only
  rw [h2]
  dsimp only
  rw [frame_len m.hs m.body.length hb hm.kept]
  dsimp only
  have hba : bodyAll (bytesM m) (m.body.length : Int) a1 = .ok (m.body, a1 + m.body.length) := by
    unfold bodyAll
    rw [if_neg (by omega), Int.toNat_natCast, if_neg (by omega), h3, List.take_length]
  rw [hba]
  dsimp only
  have hl : lastF (bytesM m) (a1 + m.body.length) ⟨m.me, m.pa, m.st, m.hs, m.body⟩ = .ok () := by
    unfold lastF
    rw [if_neg (by omega), if_pos h]
  rw [hl]
theorem bytes_len {m : Msg} (h : checkM m = 0) : (bytesM m).length ≤ 6500 ∧ bytesM m ≠ [] := by
  have hm := may_of h
  obtain ⟨a, a1, h1, h2, h3, h4, h5⟩ := written_reads hm (lenB, decB m.body.length) (lenLine m.body.length) m.body ⟨(lenLine_ok _ hm.body).1, (lenLine_ok _ hm.body).2.1, Nat.le_trans (lenLine_ok _ hm.body).2.2.1 (by decide), (lenLine_ok _ hm.body).2.2.2⟩
  have hb := hm.body
  have e : bytesM m = writtenM m (lenLine m.body.length) m.body := rfl
  refine ⟨by rw [e, h5]; omega, by unfold bytesM writtenM; simp⟩

/-- A digit of sixteen. -/
def hx (n : Nat) : UInt8 := UInt8.ofNat (if n < 10 then 48 + n else 87 + n)
def hexB (n : Nat) : B := if n < 16 then [hx n] else if n < 256 then [hx (n / 16), hx (n % 16)] else [hx (n / 256), hx (n / 16 % 16), hx (n % 16)]
theorem hexB_ok (n : Nat) (h : n ≤ 2000) : digF 16 (hexB n) = some (n : Int) ∧ NoEnd (hexB n) ∧ (hexB n).length ≤ 3 ∧ (hexB n).length ≤ 1 + n / 16 := by
  have : ∀ i : Fin 2001, digF 16 (hexB i.val) = some (i.val : Int) ∧ (∀ c ∈ hexB i.val, c ≠ 10 ∧ c ≠ 13) ∧ (hexB i.val).length ≤ 3 ∧ (hexB i.val).length ≤ 1 + i.val / 16 := by decide +kernel
  exact this ⟨n, by omega⟩
/-- A chunk. -/
def chunkB (c : B) : B := hexB c.length ++ 13 :: 10 :: (c ++ [13, 10])
/-- A body in chunks of a size, the last one without bytes. -/
def chF (size : Nat) : Nat → B → B
  | 0, _ => []
  | k + 1, b => if b.length = 0 then chunkB [] else chunkB (b.take size) ++ chF size k (b.drop size)
def chunkedM (m : Msg) (size : Nat) : B := writtenM m codLine (chF size (m.body.length + 1) m.body)
theorem body_chunks (l : B) (size : Nat) (hs : 1 ≤ size) : ∀ (k f : Nat) (b body : B) (a : Nat), l.drop a = chF size k b → a ≤ l.length → b.length < k → b.length < f → body.length + b.length ≤ 2000 → bodyF l f a body = .ok (body ++ b, l.length)
  | 0, f, b, body, a, hd, ha, hk, hf, hn => by omega
  | k + 1, f, b, body, a, hd, ha, hk, hf, hn => by
    obtain ⟨f, rfl⟩ : ∃ f', f = f' + 1 := ⟨f - 1, by omega⟩
    by_cases h0 : b.length = 0
    · have e0 : b = [] := List.length_eq_zero_iff.1 h0
      subst e0
      have hd2 : l.drop a = hexB 0 ++ 13 :: 10 :: [13, 10] := by rw [hd, chF, if_pos h0]; rfl
      obtain ⟨x1, x2, x3, _⟩ := hexB_ok 0 (by decide)
      obtain ⟨l1, l2⟩ := lineAt_of hd2 x2 (by omega)
      obtain ⟨e1, e2⟩ := endsAt_of l2
      have hx1 : digF 16 (hexB 0) = some 0 := x1
      rw [bodyF, l1]
      dsimp only
      rw [hx1]
      dsimp only
      have hlen := congrArg List.length hd2
      rw [List.length_drop] at hlen
      have hh : (hexB 0).length = 1 := rfl
      simp only [List.length_append, List.length_cons, List.length_nil, hh] at hlen
      rw [if_neg (by simp at hn ⊢; omega), if_neg (by rw [hh]; simp; omega)]
      have e3 : a + (hexB 0).length + 2 + (0 : Int).toNat = a + (hexB 0).length + 2 := rfl
      rw [e3, e1]
      dsimp only
      rw [if_pos (by decide)]
      simp [hh]; omega
    · obtain ⟨c, hc⟩ : ∃ c, c = b.take size := ⟨_, rfl⟩
      have hcl : c.length = min size b.length := by rw [hc, List.length_take]
      have hd2 : l.drop a = hexB c.length ++ 13 :: 10 :: (c ++ 13 :: 10 :: chF size k (b.drop size)) := by rw [hd, chF, if_neg h0, chunkB, ← hc]; simp
      obtain ⟨x1, x2, x3, _⟩ := hexB_ok c.length (by omega)
      obtain ⟨l1, l2⟩ := lineAt_of hd2 x2 (by omega)
      have hlen := congrArg List.length l2
      rw [List.length_drop] at hlen
      simp only [List.length_append, List.length_cons] at hlen
      have hd3 : l.drop (a + (hexB c.length).length + 2 + c.length) = 13 :: 10 :: chF size k (b.drop size) := by
        rw [← List.drop_drop, l2, List.drop_left]
      obtain ⟨e1, e2⟩ := endsAt_of hd3
      rw [bodyF, l1]
      dsimp only
      rw [x1]
      dsimp only
      rw [Int.toNat_natCast, if_neg (by omega), if_neg (by omega), e1]
      dsimp only
      rw [if_neg (by omega), l2, List.take_left]
      have hle := congrArg List.length e2
      rw [List.length_drop] at hle
      rw [body_chunks l size hs k f (b.drop size) (body ++ c) _ e2 (by omega) (by rw [List.length_drop]; omega) (by rw [List.length_drop]; omega) (by rw [List.length_append, List.length_drop]; omega)]
      rw [hc, List.append_assoc, List.take_append_drop]
theorem parse_chunked {m : Msg} (h : checkM m = 0) (size : Nat) (hs : 1 ≤ size) (hl : (chunkedM m size).length ≤ 8192) : parseF (chunkedM m size) = .ok m := by
  have hm := may_of h
  obtain ⟨a, a1, h1, h2, h3, h4, h5⟩ := written_reads hm (codB, chuB) codLine (chF size (m.body.length + 1) m.body) codLine_ok
  have hb := hm.body
  have e : chunkedM m size = writtenM m codLine (chF size (m.body.length + 1) m.body) := rfl
  rw [← e] at h1 h2 h3 h5
  unfold parseF
  rw [if_neg (by omega), h1]
  dsimp only
  rw [h2]
  dsimp only
  rw [frame_cod m.hs hm.kept]
  dsimp only
  have hba : bodyAll (chunkedM m size) (-1) a1 = .ok (m.body, (chunkedM m size).length) := by
    unfold bodyAll
    rw [if_pos rfl, body_chunks _ size hs _ 2001 m.body [] a1 h3 (by omega) (by omega) (by omega) (by simpa using hb)]
    rfl
  rw [hba]
  dsimp only
  have hl : lastF (chunkedM m size) (chunkedM m size).length ⟨m.me, m.pa, m.st, m.hs, m.body⟩ = .ok () := by
    unfold lastF
    rw [if_neg (by omega), if_pos h]
  rw [hl]
theorem chF_len (size : Nat) (hs : 1 ≤ size) : ∀ (k : Nat) (b : B), b.length ≤ 2000 → (chF size k b).length ≤ 7 * b.length + 5
  | 0, b, _ => by simp [chF]
  | k + 1, b, hb => by
    rw [chF]
    split
    · have : (chunkB []).length = 5 := rfl
      omega
    · have ih := chF_len size hs k (b.drop size) (by rw [List.length_drop]; omega)
      obtain ⟨_, _, x3, x4⟩ := hexB_ok (b.take size).length (by rw [List.length_take]; omega)
      rw [List.length_append]
      have e : (chunkB (b.take size)).length = (hexB (b.take size).length).length + (b.take size).length + 4 := by simp [chunkB]; omega
      rw [List.length_drop] at ih
      rw [List.length_take] at e x4
      rw [e]
      omega
/-- A message of at most 500 bytes has room in chunks. -/
theorem chunked_len {m : Msg} (h : checkM m = 0) (size : Nat) (hs : 1 ≤ size) (hb : m.body.length ≤ 500) : (chunkedM m size).length ≤ 8192 := by
  have hm := may_of h
  obtain ⟨a, a1, h1, h2, h3, h4, h5⟩ := written_reads hm (codB, chuB) codLine (chF size (m.body.length + 1) m.body) codLine_ok
  have := chF_len size hs (m.body.length + 1) m.body (by omega)
  show (writtenM m codLine (chF size (m.body.length + 1) m.body)).length ≤ 8192
  rw [h5]
  omega
end Go.Proofs.YtcognpibphpadaaGreatDoor
