/- Plain: the law of two frames. -/
import Derived.Test.YtcognpibphpadaaGreatDoorZLawb
set_option linter.unusedVariables false
set_option linter.unusedSimpArgs false
namespace Go.Proofs.YtcognpibphpadaaGreatDoor

def names5 : List B := [[99, 111, 110, 116, 101, 110, 116, 45, 108, 101, 110, 103, 116, 104, 58, 32, 48], [67, 79, 78, 84, 69, 78, 84, 45, 76, 69, 78, 71, 84, 72, 58, 32, 48], [116, 114, 97, 110, 115, 102, 101, 114, 45, 101, 110, 99, 111, 100, 105, 110, 103, 58, 32, 99, 104, 117, 110, 107, 101, 100], [84, 114, 97, 110, 115, 102, 101, 114, 45, 69, 110, 99, 111, 100, 105, 110, 103, 58, 32, 67, 72, 85, 78, 75, 69, 68], [67, 111, 110, 116, 101, 110, 116, 45, 76, 101, 110, 103, 116, 104, 58, 32, 49]]
def hds5 : List Hd := [([99, 111, 110, 116, 101, 110, 116, 45, 108, 101, 110, 103, 116, 104], [48]), ([67, 79, 78, 84, 69, 78, 84, 45, 76, 69, 78, 71, 84, 72], [48]), ([116, 114, 97, 110, 115, 102, 101, 114, 45, 101, 110, 99, 111, 100, 105, 110, 103], [99, 104, 117, 110, 107, 101, 100]), ([84, 114, 97, 110, 115, 102, 101, 114, 45, 69, 110, 99, 111, 100, 105, 110, 103], [67, 72, 85, 78, 75, 69, 68]), ([67, 111, 110, 116, 101, 110, 116, 45, 76, 101, 110, 103, 116, 104], [49])]
def frB (n : Int) : B := names5.getD (n % 5).toNat []
def frH (n : Int) : Hd := hds5.getD (n % 5).toNat ([], [])
theorem fr_ok (n : Int) : lineH (frB n) = some (frH n) ∧ isFrame (frH n) = true ∧ NoEnd (frB n) ∧ (frB n).length ≤ 300 ∧ frB n ≠ [] := by
  have h0 : 0 ≤ n % 5 := Int.emod_nonneg _ (by decide)
  have h5 : n % 5 < 5 := Int.emod_lt_of_pos _ (by decide)
  have h : ∀ i : Fin 5, lineH (names5.getD i.val []) = some (hds5.getD i.val ([], [])) ∧ isFrame (hds5.getD i.val ([], [])) = true ∧ (∀ c ∈ names5.getD i.val [], c ≠ 10 ∧ c ≠ 13) ∧ (names5.getD i.val []).length ≤ 300 ∧ names5.getD i.val [] ≠ [] := by decide +kernel
  exact h ⟨(n % 5).toNat, by omega⟩
def atI {α : Type} (i k : Nat) (x : α) : List α := if i = k then [x] else []
def blF (a b : B) (k l : Nat) : Nat → List Hd → List B
  | i, [] => atI i k a ++ atI i l b
  | i, h :: t => atI i k a ++ (atI i l b ++ yLine h :: blF a b k l (i + 1) t)
def hsF (a b : Hd) (k l : Nat) : Nat → List Hd → List Hd
  | i, [] => atI i k a ++ atI i l b
  | i, h :: t => atI i k a ++ (atI i l b ++ yHd h :: hsF a b k l (i + 1) t)
theorem atI_map {a : B} {h : Hd} (e : lineH a = some h) (i k : Nat) : (atI i k a).map lineH = (atI i k h).map some := by
  unfold atI; split <;> simp [e]
theorem bl_map {a b : B} {ha hb : Hd} (ea : lineH a = some ha) (eb : lineH b = some hb) (k l : Nat) : ∀ (hs : List Hd) (i : Nat), (∀ h ∈ hs, GoodY h) → (blF a b k l i hs).map lineH = (hsF ha hb k l i hs).map some
  | [], i, _ => by simp only [blF, hsF, List.map_append, atI_map ea, atI_map eb]
  | h :: t, i, g => by
    simp only [blF, hsF, List.map_append, List.map_cons, atI_map ea, atI_map eb, (g h (by simp)).line, bl_map ea eb k l t (i + 1) (fun x hx => g x (by simp [hx]))]
theorem atI_mem {α : Type} {i k : Nat} {x y : α} (h : y ∈ atI i k x) : y = x := by
  unfold atI at h; split at h
  · simpa using h
  · cases h
theorem bl_ok {a b : B} (ga : NoEnd a ∧ a.length ≤ 300 ∧ a ≠ []) (gb : NoEnd b ∧ b.length ≤ 300 ∧ b ≠ []) (k l : Nat) : ∀ (hs : List Hd) (i : Nat), (∀ h ∈ hs, GoodY h) → ∀ t ∈ blF a b k l i hs, NoEnd t ∧ t.length ≤ 300 ∧ t ≠ []
  | [], i, _, t, ht => by
    rcases List.mem_append.1 ht with ht | ht
    · rw [atI_mem ht]; exact ga
    · rw [atI_mem ht]; exact gb
  | h :: r, i, g, t, ht => by
    rcases List.mem_append.1 ht with ht | ht
    · rw [atI_mem ht]; exact ga
    · rcases List.mem_append.1 ht with ht | ht
      · rw [atI_mem ht]; exact gb
      · rcases List.mem_cons.1 ht with e | e
        · rw [e]; exact (g h (by simp)).ok
        · exact bl_ok ga gb k l r (i + 1) (fun x hx => g x (by simp [hx])) t e
theorem atI_count {h : Hd} (e : isFrame h = true) (i k : Nat) : (atI i k h).countP isFrame = if i = k then 1 else 0 := by
  unfold atI; split <;> simp [e]
theorem hs_count {a b : Hd} (ea : isFrame a = true) (eb : isFrame b = true) (k l : Nat) : ∀ (hs : List Hd) (i : Nat), (if i ≤ k ∧ k ≤ i + hs.length then 1 else 0) + (if i ≤ l ∧ l ≤ i + hs.length then 1 else 0) ≤ (hsF a b k l i hs).countP isFrame
  | [], i => by
    simp only [hsF, List.countP_append, atI_count ea, atI_count eb, List.length_nil]
    split <;> split <;> split <;> split <;> omega
  | h :: t, i => by
    have ih := hs_count ea eb k l t (i + 1)
    simp only [hsF, List.countP_append, List.countP_cons, atI_count ea, atI_count eb, List.length_cons] at ih ⊢
    split at ih <;> split at ih <;> split <;> split <;> split <;> split <;> omega
theorem atI_len {α : Type} (i k : Nat) (x : α) : (atI i k x).length = if i = k then 1 else 0 := by
  unfold atI; split <;> simp
theorem hs_len (a b : Hd) (k l : Nat) : ∀ (hs : List Hd) (i : Nat), (hsF a b k l i hs).length ≤ hs.length + (if i ≤ k then 1 else 0) + (if i ≤ l then 1 else 0)
  | [], i => by
    simp only [hsF, List.length_append, atI_len, List.length_nil]
    split <;> split <;> split <;> split <;> omega
  | h :: t, i => by
    have ih := hs_len a b k l t (i + 1)
    simp only [hsF, List.length_append, List.length_cons, atI_len] at ih ⊢
    split at ih <;> split at ih <;> split <;> split <;> split <;> split <;> omega
theorem wl_cons (t : B) (ls : List B) : (wLines (t :: ls)).length = t.length + 2 + (wLines ls).length := by simp [wLines]; omega
theorem wl_le (m : Nat) : ∀ (ls : List B), (∀ t ∈ ls, t.length ≤ m) → (wLines ls).length ≤ ls.length * (m + 2)
  | [], _ => by simp [wLines]
  | t :: ls, h => by
    have := h t (by simp)
    have ih := wl_le m ls (fun x hx => h x (by simp [hx]))
    rw [wl_cons, List.length_cons, Nat.add_mul]; omega
theorem bl_step (a b : B) (k l j : Nat) (hs : List Hd) (hj : j < hs.length) : blF a b k l j (hs.drop j) = atI j k a ++ (atI j l b ++ yLine hs[j] :: blF a b k l (j + 1) (hs.drop (j + 1))) := by
  rw [List.drop_eq_getElem_cons hj, blF]
theorem bl_last (a b : B) (k l : Nat) (hs : List Hd) : blF a b k l hs.length (hs.drop hs.length) = atI hs.length k a ++ atI hs.length l b := by
  rw [List.drop_length, blF]
theorem wl_app (x y : List B) : wLines (x ++ y) = wLines x ++ wLines y := by simp [wLines]
theorem wl_one (t : B) (r : List B) : wLines (t :: r) = t ++ 13 :: 10 :: wLines r := by simp [wLines]
theorem wl_nil : wLines [] = [] := rfl
theorem frames_len (a b : Int) (k l : Nat) (hs : List Hd) (g : ∀ h ∈ hs, GoodY h) (h13 : hs.length ≤ 13) : (startB ++ wLines (blF (frB a) (frB b) k l 0 hs)).length ≤ 6000 := by
  obtain ⟨a1, a2, a3, a4, a5⟩ := fr_ok a
  obtain ⟨b1, b2, b3, b4, b5⟩ := fr_ok b
  have hm := bl_map a1 b1 k l hs 0 g
  have hn := hs_len (frH a) (frH b) k l hs 0
  have hlen : (blF (frB a) (frB b) k l 0 hs).length = (hsF (frH a) (frH b) k l 0 hs).length := by have := congrArg List.length hm; simpa using this
  have hok := bl_ok ⟨a3, a4, a5⟩ ⟨b3, b4, b5⟩ k l hs 0 g
  have hw := wl_le 300 _ (fun t ht => (hok t ht).2.1)
  rw [hlen] at hw
  rw [if_pos (by omega), if_pos (by omega)] at hn
  have hst : startB.length = 26 := by decide
  rw [List.length_append, hst]
  have : (hsF (frH a) (frH b) k l 0 hs).length * (300 + 2) ≤ 15 * 302 := Nat.mul_le_mul (by omega) (by omega)
  omega
/-- The plain law. -/
theorem frames_law (a b : Int) (k l : Nat) (hs : List Hd) (g : ∀ h ∈ hs, GoodY h) (h13 : hs.length ≤ 13) (hk : k ≤ hs.length) (hl : l ≤ hs.length) (tail : B) (ht : tail.length ≤ 100) :
    parseF (startB ++ wLines (blF (frB a) (frB b) k l 0 hs) ++ 13 :: 10 :: tail) = .error 50 := by
  obtain ⟨a1, a2, a3, a4, a5⟩ := fr_ok a
  obtain ⟨b1, b2, b3, b4, b5⟩ := fr_ok b
  have hm := bl_map a1 b1 k l hs 0 g
  have hc := hs_count a2 b2 k l hs 0
  have hn := hs_len (frH a) (frH b) k l hs 0
  have hlen : (blF (frB a) (frB b) k l 0 hs).length = (hsF (frH a) (frH b) k l 0 hs).length := by have := congrArg List.length hm; simpa using this
  have hok := bl_ok ⟨a3, a4, a5⟩ ⟨b3, b4, b5⟩ k l hs 0 g
  have hw := wl_le 300 _ (fun t ht => (hok t ht).2.1)
  rw [hlen] at hw
  rw [if_pos (by omega), if_pos (by omega)] at hc
  rw [if_pos (by omega), if_pos (by omega)] at hn
  refine parse_frames _ _ tail hm hok (by omega) hc ?_
  have hst : startB.length = 26 := by decide
  rw [List.length_append, List.length_append, hst]
  simp only [List.length_cons]
  have : (hsF (frH a) (frH b) k l 0 hs).length * (300 + 2) ≤ 15 * 302 := Nat.mul_le_mul (by omega) (by omega)
  omega
end Go.Proofs.YtcognpibphpadaaGreatDoor
