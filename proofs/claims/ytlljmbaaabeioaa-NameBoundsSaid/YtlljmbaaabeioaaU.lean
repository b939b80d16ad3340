/- Orders of lists: plain facts. No Go text in sight. -/
import Derived.Lib.Bytealg
import GoSem.Op.String
namespace Go.Proofs.Ytlljmbaaabeioaa

/-- an order told by a number -/
structure Ordr {α : Type} (c : α → α → Int) : Prop where
  val : ∀ a b, c a b = -1 ∨ c a b = 0 ∨ c a b = 1
  anti : ∀ a b, c b a = - c a b
  zero : ∀ a b, c a b = 0 ↔ a = b
  trans : ∀ a b d, c a b < 0 → c b d < 0 → c a d < 0

def lexC {α : Type} (c : α → α → Int) : List α → List α → Int
  | [], [] => 0
  | [], _ :: _ => -1
  | _ :: _, [] => 1
  | a :: x, b :: y => if c a b ≠ 0 then c a b else lexC c x y

theorem lexC_ordr {α : Type} {c : α → α → Int} (h : Ordr c) : Ordr (lexC c) where
  val := by
    intro x
    induction x with
    | nil => intro y; cases y <;> simp [lexC]
    | cons a x ih =>
      intro y
      cases y with
      | nil => simp [lexC]
      | cons b y =>
        unfold lexC
        split
        · exact h.val a b
        · exact ih y
  anti := by
    intro x
    induction x with
    | nil => intro y; cases y <;> simp [lexC]
    | cons a x ih =>
      intro y
      cases y with
      | nil => simp [lexC]
      | cons b y =>
        unfold lexC
        have ha := h.anti a b
        by_cases h0 : c a b = 0
        · rw [if_neg (by rw [ha, h0]; simp), if_neg (by simp [h0])]; exact ih y
        · rw [if_pos (by rw [ha]; omega), if_pos h0]; exact ha
  zero := by
    intro x
    induction x with
    | nil => intro y; cases y <;> simp [lexC]
    | cons a x ih =>
      intro y
      cases y with
      | nil => simp [lexC]
      | cons b y =>
        unfold lexC
        have h1 := h.zero a b
        by_cases h0 : c a b = 0
        · rw [if_neg (by simp [h0]), ih y, h1.1 h0]; simp
        · rw [if_pos h0]
          exact ⟨fun e => absurd e h0, fun e => by injection e with e1 _; exact absurd (h1.2 e1) h0⟩
  trans := by
    intro x
    induction x with
    | nil =>
      intro y z h1 h2
      cases y with
      | nil => simp [lexC] at h1
      | cons b y => cases z <;> simp [lexC] at *
    | cons a x ih =>
      intro y z h1 h2
      cases y with
      | nil => simp [lexC] at h1
      | cons b y =>
        cases z with
        | nil => simp [lexC] at h2
        | cons d z =>
          unfold lexC at h1 h2 ⊢
          by_cases h3 : c a b = 0
          · obtain rfl := (h.zero a b).1 h3
            rw [if_neg (by simp [h3])] at h1
            by_cases h4 : c a d = 0
            · rw [if_neg (by simp [h4])] at h2 ⊢; exact ih y z h1 h2
            · rw [if_pos h4] at h2 ⊢; exact h2
          · rw [if_pos h3] at h1
            by_cases h4 : c b d = 0
            · obtain rfl := (h.zero b d).1 h4
              rw [if_pos h3]; exact h1
            · rw [if_pos h4] at h2
              have h5 := h.trans a b d h1 h2
              rw [if_pos (by omega)]; exact h5

theorem lexC_longer {α : Type} {c : α → α → Int} (h : Ordr c) (x : List α) (a : α) : lexC c x (x ++ [a]) = -1 := by
  induction x with
  | nil => rfl
  | cons b x ih => show lexC c (b :: x) (b :: (x ++ [a])) = -1; unfold lexC; rw [if_neg (by simp [(h.zero b b).2 rfl])]; exact ih

def cmpB (a b : UInt8) : Int := if a < b then -1 else if b < a then 1 else 0
theorem cmpB_ordr : Ordr cmpB where
  val := by
    intro a b; unfold cmpB
    split
    · exact .inl rfl
    · split <;> simp
  anti := by
    intro a b; unfold cmpB
    by_cases h1 : a < b
    · have : ¬ b < a := by rw [UInt8.lt_iff_toNat_lt] at *; omega
      simp [h1, this]
    · by_cases h2 : b < a <;> simp [h1, h2]
  zero := by
    intro a b; unfold cmpB
    by_cases h1 : a < b
    · simp [h1]; intro e; subst e; rw [UInt8.lt_iff_toNat_lt] at h1; omega
    · by_cases h2 : b < a
      · simp [h1, h2]; intro e; subst e; rw [UInt8.lt_iff_toNat_lt] at h1; rw [UInt8.lt_iff_toNat_lt] at h2; omega
      · simp [h1, h2]; rw [UInt8.lt_iff_toNat_lt] at h1 h2; exact UInt8.toNat_inj.1 (by omega)
  trans := by
    intro a b d; unfold cmpB
    intro h1 h2
    have h3 : a < b := by
      by_cases h : a < b
      · exact h
      · rw [if_neg h] at h1; split at h1 <;> omega
    have h4 : b < d := by
      by_cases h : b < d
      · exact h
      · rw [if_neg h] at h2; split at h2 <;> omega
    have h5 : a < d := by rw [UInt8.lt_iff_toNat_lt] at *; omega
    rw [if_pos h5]; omega

/-- the order of two texts -/
def ordT : List UInt8 → List UInt8 → Int := lexC cmpB
/-- the order of two lists of texts -/
def ordP : List (List UInt8) → List (List UInt8) → Int := lexC ordT
theorem ordT_ordr : Ordr ordT := lexC_ordr cmpB_ordr
theorem ordP_ordr : Ordr ordP := lexC_ordr ordT_ordr

theorem less_ordT : ∀ a b : List UInt8, Op.bytesLess a b = decide (ordT a b < 0)
  | [], [] => rfl
  | [], _ :: _ => rfl
  | _ :: _, [] => rfl
  | a :: x, b :: y => by
    have ih := less_ordT x y
    unfold Op.bytesLess ordT lexC
    show _ = decide ((if cmpB a b ≠ 0 then cmpB a b else ordT x y) < 0)
    by_cases h1 : a < b
    · have : cmpB a b = -1 := by unfold cmpB; rw [if_pos h1]
      simp [h1, this]
    · by_cases h2 : b < a
      · have : cmpB a b = 1 := by unfold cmpB; rw [if_neg h1, if_pos h2]
        have h3 : (a == b) = false := beq_eq_false_iff_ne.2 (fun e => by subst e; exact h1 h2)
        simp [h1, h3, this]
      · have h0 : cmpB a b = 0 := by unfold cmpB; rw [if_neg h1, if_neg h2]
        obtain rfl := (cmpB_ordr.zero a b).1 h0
        simp [h0, ih]

/-- a byte of each at a place -/
theorem lex_at {α : Type} {c : α → α → Int} (x y : List α) (k : Nat) (h1 : k < x.length) (h2 : k < y.length) : lexC c (x.drop k) (y.drop k) = if c x[k] y[k] ≠ 0 then c x[k] y[k] else lexC c (x.drop (k + 1)) (y.drop (k + 1)) := by
  rw [List.drop_eq_getElem_cons h1, List.drop_eq_getElem_cons h2]; rfl
def ordL (a b : Int) : Int := if a < b then -1 else if a > b then 1 else 0
theorem lex_end {α : Type} {c : α → α → Int} (x y : List α) (k : Nat) (h1 : k ≤ x.length) (h2 : k ≤ y.length) (h : k = x.length ∨ k = y.length) : lexC c (x.drop k) (y.drop k) = ordL x.length y.length := by
  rcases h with rfl | rfl
  · rw [List.drop_length]
    unfold ordL
    by_cases h3 : x.length = y.length
    · rw [h3, List.drop_length]; simp [lexC]
    · rw [if_pos (by omega)]
      rw [List.drop_eq_getElem_cons (by omega : x.length < y.length)]; rfl
  · rw [List.drop_length]
    unfold ordL
    by_cases h3 : x.length = y.length
    · rw [← h3, List.drop_length]; simp [lexC]
    · rw [if_neg (by omega), if_pos (by omega)]
      rw [List.drop_eq_getElem_cons (by omega : y.length < x.length)]; rfl
end Go.Proofs.Ytlljmbaaabeioaa
