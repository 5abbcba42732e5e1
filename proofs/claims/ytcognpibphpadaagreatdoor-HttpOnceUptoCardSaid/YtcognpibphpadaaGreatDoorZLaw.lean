/- Plain: what is read of bytes that lines were written into. No program in sight. -/
import Derived.Test.YtcognpibphpadaaGreatDoorZParse
set_option linter.unusedVariables false
set_option linter.unusedSimpArgs false
namespace Go.Proofs.YtcognpibphpadaaGreatDoor

/-- No end in a line. -/
def NoEnd (t : B) : Prop := ∀ c ∈ t, c ≠ 10 ∧ c ≠ 13
theorem scan_line : ∀ (t : B) (i : Nat) (rest : B), NoEnd t → i + t.length ≤ 300 → scan i (t ++ 13 :: rest) = .ok (i + t.length)
  | [], i, rest, _, _ => by simp [scan]
  | c :: t, i, rest, h, hi => by
    obtain ⟨h1, h2⟩ := h c (by simp)
    simp only [List.length_cons] at hi
    rw [List.cons_append, scan, if_neg h1, if_neg h2, if_neg (by omega), scan_line t (i + 1) rest (fun x hx => h x (by simp [hx])) (by omega)]
    simp; omega
theorem endsAt_of {l : B} {a : Nat} {rest : B} (h : l.drop a = 13 :: 10 :: rest) : endsAt l a = .ok (a + 2) ∧ l.drop (a + 2) = rest := by
  have hl : (l.drop a).length = rest.length + 2 := by rw [h]; rfl
  rw [List.length_drop] at hl
  have e0 : l[a]? = some 13 := by have := congrArg (·[0]?) h; simpa using this
  have e1 : l[a + 1]? = some 10 := by have := congrArg (·[1]?) h; simpa using this
  obtain ⟨h0, e0⟩ := List.getElem?_eq_some_iff.1 e0
  obtain ⟨h1, e1⟩ := List.getElem?_eq_some_iff.1 e1
  refine ⟨by simp [endsAt, h0, e0, h1, e1], ?_⟩
  have := congrArg (List.drop 2) h
  simpa using this
theorem lineAt_of {l : B} {a : Nat} {t rest : B} (h : l.drop a = t ++ 13 :: 10 :: rest) (ht : NoEnd t) (hlen : t.length ≤ 300) :
    lineAt l a = .ok (t, a + t.length + 2) ∧ l.drop (a + t.length + 2) = rest := by
  have hs : scan 0 (l.drop a) = .ok t.length := by rw [h, scan_line t 0 _ ht (by omega)]; simp
  have hd : l.drop (a + t.length) = 13 :: 10 :: rest := by
    have := congrArg (List.drop t.length) h
    simpa using this
  obtain ⟨h1, h2⟩ := endsAt_of hd
  refine ⟨?_, h2⟩
  unfold lineAt
  rw [hs]
  simp only [h1, h, List.take_left']
/-- Lines, each with its end. -/
def wLines (ls : List B) : B := ls.flatMap (· ++ [13, 10])
theorem headsF_of (l : B) : ∀ (ls : List B) (hs : List Hd) (n a : Nat) (raw : List Hd) (rest : B), ls.map lineH = hs.map some → (∀ t ∈ ls, NoEnd t ∧ t.length ≤ 300 ∧ t ≠ []) → l.drop a = wLines ls ++ 13 :: 10 :: rest → raw.length + hs.length ≤ 20 → hs.length < n →
    headsF l n a raw = .ok (raw ++ hs, a + (wLines ls).length + 2) ∧ l.drop (a + (wLines ls).length + 2) = rest
  | [], hs, n, a, raw, rest, hm, hl, hd, h20, hn => by
    have : hs = [] := by cases hs with | nil => rfl | cons => cases hm
    subst this
    obtain ⟨n, rfl⟩ : ∃ k, n = k + 1 := ⟨n - 1, by simp at hn; omega⟩
    obtain ⟨h1, h2⟩ := lineAt_of (l := l) (a := a) (t := []) (rest := rest) (by simpa [wLines] using hd) (fun c hc => by cases hc) (by simp)
    refine ⟨?_, by simpa [wLines] using h2⟩
    rw [headsF, h1]
    simp [wLines]
  | t :: ls, hs, n, a, raw, rest, hm, hl, hd, h20, hn => by
    obtain ⟨h, hs, rfl⟩ : ∃ h hs', hs = h :: hs' := by cases hs with | nil => cases hm | cons h hs' => exact ⟨h, hs', rfl⟩
    simp only [List.map_cons, List.cons.injEq] at hm
    obtain ⟨n, rfl⟩ : ∃ k, n = k + 1 := ⟨n - 1, by simp at hn; omega⟩
    obtain ⟨ht1, ht2, ht3⟩ := hl t (by simp)
    have hd' : l.drop a = t ++ 13 :: 10 :: (wLines ls ++ 13 :: 10 :: rest) := by rw [hd]; simp [wLines]
    obtain ⟨h1, h2⟩ := lineAt_of hd' ht1 ht2
    have he : t.isEmpty = false := by cases t with | nil => exact absurd rfl ht3 | cons => rfl
    simp only [List.length_cons] at h20 hn
    obtain ⟨h3, h4⟩ := headsF_of l ls hs n (a + t.length + 2) (raw ++ [h]) rest hm.2 (fun x hx => hl x (by simp [hx])) h2 (by simp; omega) (by omega)
    have hlen : (wLines (t :: ls)).length = t.length + 2 + (wLines ls).length := by simp [wLines]; omega
    have e : a + (wLines (t :: ls)).length + 2 = a + t.length + 2 + (wLines ls).length + 2 := by omega
    rw [e]
    refine ⟨?_, h4⟩
    rw [headsF, h1]
    dsimp only
    rw [if_neg (by simp [he]), if_neg (by omega), hm.1]
    dsimp only
    rw [h3]
    simp

theorem indexByte_app (b : UInt8) (a t : B) (h : b ∉ a) : Lib.indexByte (a ++ b :: t) b = (a.length : Int) := by
  induction a with
  | nil => simp [Lib.indexByte]
  | cons c r ih =>
    simp only [List.mem_cons, not_or] at h
    have hc : (c == b) = false := by simp; exact fun e => h.1 e.symm
    show Lib.indexByte (c :: (r ++ b :: t)) b = _
    unfold Lib.indexByte
    rw [if_neg (by simp [hc]), ih h.2]
    rw [if_neg (by simp)]
    simp
theorem cut_app (b : UInt8) (a t : B) (h : b ∉ a) : Lib.cut (a ++ b :: t) [b] = (a, t, true) := by
  unfold Lib.cut
  rw [Lib.index_one, indexByte_app b a t h, if_pos (by omega)]
  have e1 : ((a.length : Int)).toNat = a.length := by omega
  rw [e1]
  simp
/-- A value that no blank stands around. -/
structure Trimmed (v : B) : Prop where
  nine : ∀ c ∈ v, c ≠ 9
  first : v[0]? ≠ some 32
  last : 0 < v.length → v[v.length - 1]? ≠ some 32
theorem trimS_blank (v : B) (h : Trimmed v) : Lib.trimS (32 :: v) [32, 9] = v := by
  have hc : ∀ b : UInt8, b ∈ v → b ≠ 32 → ([32, 9] : B).contains b = false := fun b hb hne => by
    have := h.nine b hb
    simp [hne, this]
  unfold Lib.trimS
  cases v with
  | nil => rfl
  | cons x t =>
    have h1 : Lib.trimRightS (32 :: x :: t) [32, 9] = (32 :: x :: t).take (32 :: x :: t).length := by
      refine Lib.trimRightS_take _ _ _ (Nat.le_refl _) (fun j b hj hb => ?_) (fun b _ hb => ?_)
      · rw [List.getElem?_eq_none (by omega)] at hb; cases hb
      · have hl := h.last (by simp)
        have e : (32 :: x :: t)[(32 :: x :: t).length - 1]? = (x :: t)[(x :: t).length - 1]? := by simp
        rw [e] at hb
        exact hc b (List.mem_of_getElem? hb) (fun e2 => hl (by rw [hb, e2]))
    rw [h1, List.take_length]
    have h2 : Lib.trimLeftS (32 :: x :: t) [32, 9] = (32 :: x :: t).drop 1 := by
      refine Lib.trimLeftS_drop _ _ 1 (by simp) (fun j b hj hb => ?_) (fun b hb => ?_)
      · have : j = 0 := by omega
        subst this
        simp at hb
        subst hb; rfl
      · simp at hb
        subst hb
        exact hc x (by simp) (fun e2 => h.first (by simp [e2]))
    rw [h2]; rfl
theorem lineH_of (n v : B) (hn : (58 : UInt8) ∉ n) (hv : Trimmed v) (hm : mayB n v = true) (hl : n.length + v.length ≤ 298) : lineH (n ++ 58 :: 32 :: v) = some (n, v) := by
  unfold lineH
  rw [cut_app 58 n (32 :: v) hn]
  dsimp only
  rw [trimS_blank v hv, hm, if_pos]
  simp; omega
def isFrame (h : Hd) : Bool := alike h.1 lenB || alike h.1 codB
theorem frame_many : ∀ (raw : List Hd) (f : FS), (raw.foldl frameStep f).many = f.many + raw.countP isFrame
  | [], f => rfl
  | h :: t, f => by
    rw [List.foldl_cons, frame_many t, List.countP_cons]
    unfold frameStep isFrame
    split
    · next e => simp [e]; omega
    · next e =>
      split
      · next e2 => simp [e2]; omega
      · next e2 => split <;> simp [e, e2]
theorem frameF_two (raw : List Hd) (h : 2 ≤ raw.countP isFrame) : frameF raw = .error 50 := by
  unfold frameF
  rw [if_pos]
  unfold frameAll
  rw [frame_many]
  simp only
  omega

def getLine : B := [71, 69, 84, 32, 47, 97, 32, 72, 84, 84, 80, 47, 49, 46, 49]
def hostLine : B := [72, 111, 115, 116, 58, 32, 104]
def startB : B := [71, 69, 84, 32, 47, 97, 32, 72, 84, 84, 80, 47, 49, 46, 49, 13, 10, 72, 111, 115, 116, 58, 32, 104, 13, 10]
theorem getLine_first : firstF getLine = some ([71, 69, 84], [47, 97], 0) := by kernel_rfl
theorem hostLine_h : lineH hostLine = some ([72, 111, 115, 116], [104]) := by kernel_rfl
theorem start_eq : startB = getLine ++ 13 :: 10 :: (hostLine ++ [13, 10]) := by kernel_rfl
theorem getLine_noEnd : NoEnd getLine := by unfold NoEnd; decide +kernel
theorem hostLine_noEnd : NoEnd hostLine := by unfold NoEnd; decide +kernel
theorem parse_frames (bl : List B) (hs : List Hd) (tail : B) (hm : bl.map lineH = hs.map some) (hl : ∀ t ∈ bl, NoEnd t ∧ t.length ≤ 300 ∧ t ≠ []) (h19 : hs.length ≤ 19) (h2 : 2 ≤ hs.countP isFrame)
    (hlen : (startB ++ wLines bl ++ 13 :: 10 :: tail).length ≤ 8192) : parseF (startB ++ wLines bl ++ 13 :: 10 :: tail) = .error 50 := by
  have e : startB ++ wLines bl ++ 13 :: 10 :: tail = getLine ++ 13 :: 10 :: (wLines (hostLine :: bl) ++ 13 :: 10 :: tail) := by
    rw [start_eq]; simp [wLines]
  obtain ⟨h3, h4⟩ := lineAt_of (l := startB ++ wLines bl ++ 13 :: 10 :: tail) (a := 0) (t := getLine) (rest := wLines (hostLine :: bl) ++ 13 :: 10 :: tail) (by rw [List.drop_zero, e]) getLine_noEnd (by decide)
  have h5 : firstAt (startB ++ wLines bl ++ 13 :: 10 :: tail) 0 = .ok ([71, 69, 84], [47, 97], 0, 0 + getLine.length + 2) := by
    unfold firstAt
    rw [h3]
    dsimp only
    rw [getLine_first]
  obtain ⟨h6, _⟩ := headsF_of _ (hostLine :: bl) (([72, 111, 115, 116], [104]) :: hs) 21 _ [] tail (by simp [hostLine_h, hm]) (fun t ht => by
    rcases List.mem_cons.1 ht with e | e
    · subst e; exact ⟨hostLine_noEnd, by decide, by decide⟩
    · exact hl t e) h4 (by simp; omega) (by simp; omega)
  unfold parseF
  rw [if_neg (by omega), h5]
  dsimp only
  rw [h6]
  dsimp only
  rw [List.nil_append, frameF_two _ (by rw [List.countP_cons]; omega)]
end Go.Proofs.YtcognpibphpadaaGreatDoor
