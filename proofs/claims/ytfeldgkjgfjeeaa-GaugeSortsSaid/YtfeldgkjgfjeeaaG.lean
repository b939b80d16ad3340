/- Parts exchanged, and two sorted parts merged in place: plain facts over arrays. No Go text in sight. -/
import Derived.Sort.LotA
namespace Go.Proofs.Ytfeldgkjgfjeeaa
open Go.Sort
variable {α : Type} [Inhabited α] {lt : α → α → Bool}

/-- n places from a on exchanged with those from b on -/
def swapN (d : Array α) (a b : Nat) : Nat → Array α
  | 0 => d
  | n + 1 => swp (swapN d a b n) (a + n) (b + n)
theorem swapN_size (d : Array α) (a b : Nat) : ∀ n, (swapN d a b n).size = d.size
  | 0 => rfl
  | n + 1 => by rw [swapN, size_swp, swapN_size d a b n]
theorem swapN_get (d : Array α) (a b : Nat) : ∀ n, a + n ≤ b → b + n ≤ d.size → ∀ t, (swapN d a b n)[t]! = if a ≤ t ∧ t < a + n then d[t - a + b]! else if b ≤ t ∧ t < b + n then d[t - b + a]! else d[t]!
  | 0, _, _, t => by rw [if_neg (by omega), if_neg (by omega)]; rfl
  | n + 1, h1, h2, t => by
    have ih := swapN_get d a b n (by omega) (by omega)
    rw [swapN, swp_get _ (by rw [swapN_size]; omega) (by rw [swapN_size]; omega), ih, ih, ih]
    by_cases ta : t = b + n
    · subst ta
      rw [if_pos rfl, if_neg (by omega), if_neg (by omega), if_neg (by omega), if_pos (by omega)]
      congr 1; omega
    · rw [if_neg ta]
      by_cases tb : t = a + n
      · subst tb
        rw [if_pos rfl, if_neg (by omega), if_neg (by omega), if_pos (by omega)]
        congr 1; omega
      · rw [if_neg tb]
        by_cases c1 : a ≤ t ∧ t < a + n
        · rw [if_pos c1, if_pos (show a ≤ t ∧ t < a + (n + 1) by omega)]
        · rw [if_neg c1, if_neg (show ¬(a ≤ t ∧ t < a + (n + 1)) by omega)]
          by_cases c2 : b ≤ t ∧ t < b + n
          · rw [if_pos c2, if_pos (show b ≤ t ∧ t < b + (n + 1) by omega)]
          · rw [if_neg c2, if_neg (show ¬(b ≤ t ∧ t < b + (n + 1)) by omega)]
theorem swapN_perm (d : Array α) (a b lo hi : Nat) (h1 : lo ≤ a) (hh : hi ≤ d.size) : ∀ n, a + n ≤ b → b + n ≤ hi → PermIn lo hi d (swapN d a b n)
  | 0, _, _ => permIn_refl d lo hi
  | n + 1, h3, h2 => permIn_trans _ _ _ lo hi (swapN_perm d a b lo hi h1 hh n (by omega) (by omega)) (swp_permIn _ lo hi (a + n) (b + n) (by omega) (by omega) (by omega) (by omega) (by rw [swapN_size]; exact hh))

/-- [a, m) and [m, b) changed about -/
def Rot (a m b : Nat) (d d' : Array α) : Prop := PermIn a b d d' ∧ ∀ t, a ≤ t → t < b → d'[t]! = if t < a + (b - m) then d[t + (m - a)]! else d[t - (b - m)]!

theorem rot_more {d d' : Array α} {m i j : Nat} (hi : j < i) (hm : i ≤ m) (hj : m + j ≤ d.size) (h : Rot (m - (i - j)) m (m + j) (swapN d (m - i) m j) d') : Rot (m - i) m (m + j) d d' := by
  have hg := swapN_get d (m - i) m j (by omega) hj
  have hp := swapN_perm d (m - i) m (m - i) (m + j) (Nat.le_refl _) hj j (by omega) (Nat.le_refl _)
  refine ⟨permIn_trans _ _ _ _ _ hp (permIn_mono _ _ _ _ _ _ (by omega) (Nat.le_refl _) (by rw [swapN_size]; exact hj) h.1), fun t ht1 ht2 => ?_⟩
  have o := h.1.2.1 t
  by_cases c1 : t < m - i + (m + j - m)
  · rw [if_pos c1, o (by omega), hg, if_pos (by omega)]
    congr 1; omega
  · have k := h.2 t (by omega) ht2
    rw [if_neg c1, k]
    by_cases c2 : t < m - (i - j) + (m + j - m)
    · rw [if_pos c2, hg, if_neg (by omega), if_pos (by omega)]
      congr 1; omega
    · rw [if_neg c2, hg, if_neg (by omega), if_neg (by omega)]
theorem rot_less {d d' : Array α} {m i j : Nat} (hi : i < j) (hm : i ≤ m) (hj : m + j ≤ d.size) (h : Rot (m - i) m (m + (j - i)) (swapN d (m - i) (m + j - i) i) d') : Rot (m - i) m (m + j) d d' := by
  have hg := swapN_get d (m - i) (m + j - i) i (by omega) (by omega)
  have hp := swapN_perm d (m - i) (m + j - i) (m - i) (m + j) (Nat.le_refl _) hj i (by omega) (by omega)
  refine ⟨permIn_trans _ _ _ _ _ hp (permIn_mono _ _ _ _ _ _ (Nat.le_refl _) (by omega) (by rw [swapN_size]; exact hj) h.1), fun t ht1 ht2 => ?_⟩
  have o := h.1.2.1 t
  by_cases c1 : t < m - i + (m + j - m)
  · have k := h.2 t (by omega) (by omega)
    rw [if_pos c1, k]
    by_cases c2 : t < m - i + (m + (j - i) - m)
    · rw [if_pos c2, hg, if_neg (by omega), if_neg (by omega)]
    · rw [if_neg c2, hg, if_pos (by omega)]
      congr 1; omega
  · rw [if_neg c1, o (by omega), hg, if_neg (by omega), if_pos (by omega)]
    congr 1; omega
theorem rot_same {d : Array α} {m i : Nat} (hm : i ≤ m) (hj : m + i ≤ d.size) : Rot (m - i) m (m + i) d (swapN d (m - i) m i) := by
  have hg := swapN_get d (m - i) m i (by omega) hj
  refine ⟨swapN_perm d (m - i) m (m - i) (m + i) (Nat.le_refl _) hj i (by omega) (Nat.le_refl _), fun t ht1 ht2 => ?_⟩
  rw [hg]
  by_cases c1 : t < m - i + (m + i - m)
  · rw [if_pos c1, if_pos (by omega)]
    congr 1; omega
  · rw [if_neg c1, if_neg (by omega), if_pos (by omega)]
    congr 1; omega
theorem rot_none {d : Array α} {a m b : Nat} (h : a = m ∨ m = b) : Rot a m b d d := by
  refine ⟨permIn_refl _ _ _, fun t h1 h2 => ?_⟩
  rcases h with rfl | rfl
  · rw [if_pos (by omega)]; congr 1; omega
  · rw [if_neg (by omega)]; congr 1; omega

/-- sorted, told also of equal places -/
theorem SortedIn.le (hS : SWO lt) {a b : Nat} {d : Array α} (h : SortedIn lt a b d) {i j : Nat} (hi : a ≤ i) (hij : i ≤ j) (hj : j < b) : lt d[j]! d[i]! = false := by
  rcases Nat.lt_or_eq_of_le hij with h1 | rfl
  · exact h i j hi h1 hj
  · exact hS.irrefl _
omit [Inhabited α] in
theorem tt_of (hS : SWO lt) {x y z : α} (h1 : lt x z = true) (h2 : lt x y = false) : lt y z = true := by
  cases h : lt y z with
  | true => rfl
  | false => have := hS.ntrans x y z h2 h; rw [h1] at this; cases this
omit [Inhabited α] in
theorem tt_of' (hS : SWO lt) {x y z : α} (h1 : lt x z = true) (h2 : lt y z = false) : lt x y = true := by
  cases h : lt x y with
  | true => rfl
  | false => have := hS.ntrans x y z h h2; rw [h1] at this; cases this

/-! the first of a part put in its place among the others, which are sorted -/
/-- what was at a has come to k -/
def ShL (a k : Nat) (d dk : Array α) : Prop := dk.size = d.size ∧ ∀ t, dk[t]! = if a ≤ t ∧ t < k then d[t + 1]! else if t = k then d[a]! else d[t]!
theorem ShL.start (a : Nat) (d : Array α) : ShL a a d d := ⟨rfl, fun t => by
  rw [if_neg (by omega)]; by_cases h : t = a
  · subst h; rw [if_pos rfl]
  · rw [if_neg h]⟩
theorem ShL.step {a k : Nat} {d dk : Array α} (h : ShL a k d dk) (hk : k + 1 < d.size) (ha : a ≤ k) : ShL a (k + 1) d (swp dk k (k + 1)) := by
  refine ⟨by rw [size_swp, h.1], fun t => ?_⟩
  rw [swp_get dk (by rw [h.1]; omega) (by rw [h.1]; omega), h.2, h.2, h.2]
  by_cases c1 : t = k + 1
  · subst c1; rw [if_pos rfl, if_neg (by omega), if_pos rfl, if_neg (by omega), if_pos rfl]
  · rw [if_neg c1]
    by_cases c2 : t = k
    · subst c2; rw [if_pos rfl, if_neg (by omega), if_neg (by omega), if_pos (by omega)]
    · rw [if_neg c2, if_neg c2]
      by_cases c3 : a ≤ t ∧ t < k
      · rw [if_pos c3, if_pos (by omega)]
      · rw [if_neg c3, if_neg (by omega), if_neg c1]
theorem ShL.sorted (hS : SWO lt) {a i b : Nat} {d dk : Array α} (h : ShL a (i - 1) d dk) (hs : SortedIn lt (a + 1) b d) (hi : a + 1 ≤ i) (hib : i ≤ b) (h1 : ∀ t, a + 1 ≤ t → t < i → lt d[t]! d[a]! = true) (h2 : ∀ t, i ≤ t → t < b → lt d[t]! d[a]! = false) : SortedIn lt a b dk := by
  intro p q hp hpq hq
  have e1 : ∀ t, a ≤ t → t < i - 1 → dk[t]! = d[t + 1]! := fun t x y => by rw [h.2, if_pos ⟨x, y⟩]
  have e2 : dk[i - 1]! = d[a]! := by rw [h.2, if_neg (by omega), if_pos rfl]
  have e3 : ∀ t, i ≤ t → dk[t]! = d[t]! := fun t x => by rw [h.2, if_neg (by omega), if_neg (by omega)]
  by_cases p1 : p < i - 1
  · rw [e1 p hp p1]
    by_cases q1 : q < i - 1
    · rw [e1 q (by omega) q1]; exact hs _ _ (by omega) (by omega) (by omega)
    · by_cases q2 : q = i - 1
      · rw [q2, e2]; exact hS.asymmA (h1 _ (by omega) (by omega))
      · rw [e3 q (by omega)]; exact hs _ _ (by omega) (by omega) hq
  · by_cases p2 : p = i - 1
    · rw [p2, e2, e3 q (by omega)]; exact h2 _ (by omega) hq
    · rw [e3 p (by omega), e3 q (by omega)]; exact hs _ _ (by omega) hpq hq

/-! the last of a part put in its place -/
def ShR (m k : Nat) (d dk : Array α) : Prop := dk.size = d.size ∧ ∀ t, dk[t]! = if k < t ∧ t ≤ m then d[t - 1]! else if t = k then d[m]! else d[t]!
theorem ShR.start (m : Nat) (d : Array α) : ShR m m d d := ⟨rfl, fun t => by
  rw [if_neg (by omega)]; by_cases h : t = m
  · subst h; rw [if_pos rfl]
  · rw [if_neg h]⟩
theorem ShR.step {m k : Nat} {d dk : Array α} (h : ShR m (k + 1) d dk) (hm : m < d.size) (hk : k + 1 ≤ m) : ShR m k d (swp dk (k + 1) k) := by
  refine ⟨by rw [size_swp, h.1], fun t => ?_⟩
  rw [swp_get dk (by rw [h.1]; omega) (by rw [h.1]; omega), h.2, h.2, h.2]
  by_cases c1 : t = k
  · subst c1; rw [if_pos rfl, if_neg (by omega), if_pos rfl, if_neg (by omega), if_pos rfl]
  · rw [if_neg c1]
    by_cases c2 : t = k + 1
    · subst c2; rw [if_pos rfl, if_neg (by omega), if_neg (by omega), if_pos (by omega)]; rfl
    · rw [if_neg c2, if_neg c2]
      by_cases c3 : k + 1 < t ∧ t ≤ m
      · rw [if_pos c3, if_pos (by omega)]
      · rw [if_neg c3, if_neg (by omega), if_neg c1]
theorem ShR.sorted (hS : SWO lt) {a i m : Nat} {d dk : Array α} (h : ShR m i d dk) (hs : SortedIn lt a m d) (hi : i ≤ m) (hai : a ≤ i) (h1 : ∀ t, a ≤ t → t < i → lt d[m]! d[t]! = false) (h2 : ∀ t, i ≤ t → t < m → lt d[m]! d[t]! = true) : SortedIn lt a (m + 1) dk := by
  intro p q hp hpq hq
  have e1 : ∀ t, i < t → t ≤ m → dk[t]! = d[t - 1]! := fun t x y => by rw [h.2, if_pos ⟨x, y⟩]
  have e2 : dk[i]! = d[m]! := by rw [h.2, if_neg (by omega), if_pos rfl]
  have e3 : ∀ t, t < i → dk[t]! = d[t]! := fun t x => by rw [h.2, if_neg (by omega), if_neg (by omega)]
  by_cases p1 : i < p
  · rw [e1 p p1 (by omega), e1 q (by omega) (by omega)]; exact hs _ _ (by omega) (by omega) (by omega)
  · by_cases p2 : p = i
    · rw [p2, e2, e1 q (by omega) (by omega)]; exact hS.asymmA (h2 _ (by omega) (by omega))
    · rw [e3 p (by omega)]
      by_cases q1 : i < q
      · rw [e1 q q1 (by omega)]; exact SortedIn.le hS hs hp (by omega) (by omega)
      · by_cases q2 : q = i
        · rw [q2, e2]; exact h1 _ hp (by omega)
        · rw [e3 q (by omega)]; exact hs _ _ hp hpq (by omega)

/-! what a search tells -/
theorem seek_left (hS : SWO lt) {d : Array α} {a b h : Nat} (hs : SortedIn lt (a + 1) b d) (h1 : a + 1 ≤ h) (h2 : h < b) :
    (lt d[h]! d[a]! = true → ∀ t, a + 1 ≤ t → t < h + 1 → lt d[t]! d[a]! = true) ∧ (lt d[h]! d[a]! = false → ∀ t, h ≤ t → t < b → lt d[t]! d[a]! = false) :=
  ⟨fun e t x y => tt_of hS e (SortedIn.le hS hs x (by omega) h2), fun e t x y => hS.ntrans _ _ _ (SortedIn.le hS hs h1 x y) e⟩
theorem seek_right (hS : SWO lt) {d : Array α} {a m h : Nat} (hs : SortedIn lt a m d) (h1 : a ≤ h) (h2 : h < m) :
    (lt d[m]! d[h]! = false → ∀ t, a ≤ t → t < h + 1 → lt d[m]! d[t]! = false) ∧ (lt d[m]! d[h]! = true → ∀ t, h ≤ t → t < m → lt d[m]! d[t]! = true) :=
  ⟨fun e t x y => hS.ntrans _ _ _ e (SortedIn.le hS hs x (by omega) h2), fun e t x y => tt_of' hS e (SortedIn.le hS hs h1 x y)⟩
/-- p - c in the second part, c in the first -/
theorem seek_both (hS : SWO lt) {d : Array α} {a m b p lo hi h : Nat} (h1 : SortedIn lt a m d) (h2 : SortedIn lt m b d) (ha : a ≤ lo) (hm : hi ≤ m) (hp : ∀ c, lo ≤ c → c < hi → c ≤ p ∧ m ≤ p - c ∧ p - c < b) (hl : lo ≤ h) (hh : h < hi) :
    (lt d[p - h]! d[h]! = false → ∀ t, lo ≤ t → t < h + 1 → lt d[p - t]! d[t]! = false) ∧ (lt d[p - h]! d[h]! = true → ∀ t, h ≤ t → t < hi → lt d[p - t]! d[t]! = true) := by
  have ph := hp h hl hh
  constructor
  · intro e t x y
    have pt := hp t x (by omega)
    have k1 := SortedIn.le hS h2 ph.2.1 (show p - h ≤ p - t by omega) pt.2.2
    have k2 := SortedIn.le hS h1 (show a ≤ t by omega) (show t ≤ h by omega) (by omega)
    exact hS.ntrans _ _ _ (hS.ntrans _ _ _ k1 e) k2
  · intro e t x y
    have pt := hp t (by omega) y
    have k1 := SortedIn.le hS h2 pt.2.1 (show p - t ≤ p - h by omega) ph.2.2
    have k2 := SortedIn.le hS h1 (show a ≤ h by omega) x (by omega)
    cases c : lt d[p - t]! d[t]! with
    | true => rfl
    | false =>
      have := hS.ntrans _ _ _ (hS.ntrans _ _ _ k1 c) k2
      rw [e] at this; cases this

/-- the two halves behind the change, merged each: all is sorted -/
theorem merge_halves (hS : SWO lt) {d d1 d2 d3 : Array α} {a s m e mid b : Nat} (h1 : SortedIn lt a m d) (h2 : SortedIn lt m b d) (hb : b ≤ d.size) (has : a ≤ s) (hsm : s ≤ m) (hme : m ≤ e) (heb : e ≤ b) (hmid : s + e = mid + m)
    (c1 : a < s → e < b → lt d[e]! d[s - 1]! = false) (c2 : m < e → s < m → lt d[e - 1]! d[s]! = true) (hr : Rot s m e d d1)
    (hl : a < s → s < mid → SortedIn lt a s d1 → SortedIn lt s mid d1 → PermIn a mid d1 d2 ∧ SortedIn lt a mid d2) (hl' : ¬ (a < s ∧ s < mid) → d2 = d1)
    (hq : mid < e → e < b → SortedIn lt mid e d2 → SortedIn lt e b d2 → PermIn mid b d2 d3 ∧ SortedIn lt mid b d3) (hq' : ¬ (mid < e ∧ e < b) → d3 = d2) :
    PermIn a b d d3 ∧ SortedIn lt a b d3 := by
  have o := hr.1.2.1
  have r := hr.2
  have sz := hr.1.1
  -- where each place of d1 came from
  have A1 : ∀ t, t < s → d1[t]! = d[t]! := fun t x => o t (.inl x)
  have B1 : ∀ t, s ≤ t → t < mid → d1[t]! = d[t + (m - s)]! := fun t x y => by rw [r t x (by omega), if_pos (by omega)]
  have A2 : ∀ t, mid ≤ t → t < e → d1[t]! = d[t - (e - m)]! := fun t x y => by rw [r t (by omega) y, if_neg (by omega)]
  have B2 : ∀ t, e ≤ t → d1[t]! = d[t]! := fun t x => o t (.inr x)
  have s1 : SortedIn lt a s d1 := fun p q x y z => by rw [A1 p (by omega), A1 q z]; exact h1 p q x y (by omega)
  have s2 : SortedIn lt s mid d1 := fun p q x y z => by rw [B1 p x (by omega), B1 q (by omega) z]; exact h2 _ _ (by omega) (by omega) (by omega)
  have s3 : SortedIn lt mid e d1 := fun p q x y z => by rw [A2 p x (by omega), A2 q (by omega) z]; exact h1 _ _ (by omega) (by omega) (by omega)
  have s4 : SortedIn lt e b d1 := fun p q x y z => by rw [B2 p x, B2 q (by omega)]; exact h2 p q (by omega) y z
  -- all of the left half before all of the right
  have cr : ∀ q, mid ≤ q → q < b → ∀ p, a ≤ p → p < mid → lt d1[q]! d1[p]! = false := by
    intro q x y p z v
    by_cases hp : p < s
    · rw [A1 p hp]
      by_cases hq2 : q < e
      · rw [A2 q x hq2]; exact SortedIn.le hS h1 z (by omega) (by omega)
      · rw [B2 q (by omega)]
        have k := c1 (by omega) (by omega)
        exact hS.ntrans _ _ _ (hS.ntrans _ _ _ (SortedIn.le hS h2 hme (by omega) y) k) (SortedIn.le hS h1 z (by omega) (by omega))
    · rw [B1 p (by omega) v]
      by_cases hq2 : q < e
      · rw [A2 q x hq2]
        have k := hS.asymmA (c2 (by omega) (by omega))
        exact hS.ntrans _ _ _ (hS.ntrans _ _ _ (SortedIn.le hS h1 has (by omega) (by omega)) k) (SortedIn.le hS h2 (by omega) (by omega) (by omega))
      · rw [B2 q (by omega)]; exact SortedIn.le hS h2 (by omega) (by omega) y
  have p1 : PermIn a b d d1 := permIn_mono _ _ _ _ _ _ has heb hb hr.1
  have hm1 : a ≤ mid := by omega
  have hm2 : mid ≤ b := by omega
  have L : PermIn a mid d1 d2 ∧ SortedIn lt a mid d2 := by
    by_cases c : a < s ∧ s < mid
    · exact hl c.1 c.2 s1 s2
    · rw [hl' c]
      refine ⟨permIn_refl _ _ _, ?_⟩
      by_cases c3 : a < s
      · have : s = mid := by omega
        rw [← this]; exact s1
      · have : a = s := by omega
        rw [this]; exact s2
  have up : ∀ t, mid ≤ t → d2[t]! = d1[t]! := fun t x => L.1.2.1 t (.inr x)
  have R : PermIn mid b d2 d3 ∧ SortedIn lt mid b d3 := by
    have s3' : SortedIn lt mid e d2 := fun p q x y z => by rw [up p x, up q (by omega)]; exact s3 p q x y z
    have s4' : SortedIn lt e b d2 := fun p q x y z => by rw [up p (by omega), up q (by omega)]; exact s4 p q x y z
    by_cases c : mid < e ∧ e < b
    · exact hq c.1 c.2 s3' s4'
    · rw [hq' c]
      refine ⟨permIn_refl _ _ _, ?_⟩
      by_cases c3 : mid < e
      · have : e = b := by omega
        rw [← this]; exact s3'
      · have : mid = e := by omega
        rw [this]; exact s4'
  have sz1 : d1.size = d.size := sz
  have sz2 : d2.size = d.size := L.1.1.trans sz1
  refine ⟨permIn_trans _ _ _ _ _ p1 (permIn_trans _ _ _ _ _ (permIn_mono _ _ _ _ _ _ (Nat.le_refl _) hm2 (by rw [sz1]; exact hb) L.1) (permIn_mono _ _ _ _ _ _ hm1 (Nat.le_refl _) (by rw [sz2]; exact hb) R.1)), ?_⟩
  -- the cross relation through both permutations
  have dn : ∀ t, t < mid → d3[t]! = d2[t]! := fun t x => R.1.2.1 t (.inl x)
  have cr2 : ∀ q, mid ≤ q → q < b → ∀ p, a ≤ p → p < mid → lt d2[q]! d2[p]! = false := by
    intro q x y
    rw [up q x]
    exact permIn_all d1 d2 a mid (fun v => lt d1[q]! v = false) (by rw [sz1]; omega) L.1 (cr q x y)
  have cr3 : ∀ p, a ≤ p → p < mid → ∀ q, mid ≤ q → q < b → lt d3[q]! d3[p]! = false := by
    intro p x y
    rw [dn p y]
    exact permIn_all d2 d3 mid b (fun v => lt v d2[p]! = false) (by rw [sz2]; exact hb) R.1 (fun q z v => cr2 q z v p x y)
  intro p q x y z
  by_cases hq3 : q < mid
  · rw [dn p (by omega), dn q hq3]; exact L.2 p q x y hq3
  · by_cases hp3 : p < mid
    · exact cr3 p x hp3 q (by omega) z
    · exact R.2 p q (by omega) y z
end Go.Proofs.Ytfeldgkjgfjeeaa
