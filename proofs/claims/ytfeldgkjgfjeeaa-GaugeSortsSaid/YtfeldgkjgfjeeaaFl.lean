/- Plain facts on 64-bit floats: the order of two words is the order of their keys; what a NaN is. No Go in sight. -/
import Derived.Laws.FloatArith
namespace Go.Proofs.Ytfeldgkjgfjeeaa.Fl
open Ieee

/-- the exponent above the least place -/
def ex (r : Nat) : Nat := r / 4503599627370496 - 1
/-- the significand -/
def mant (r : Nat) : Nat := if r < 4503599627370496 then r else 4503599627370496 + r % 4503599627370496
/-- a rung's magnitude in units of the least place -/
def val (r : Nat) : Nat := mant r * 2 ^ ex r

theorem val_lt {r s : Nat} (h : r < s) : val r < val s := by
  unfold val mant ex
  by_cases hr : r < 4503599627370496
  · rw [if_pos hr]
    have e0 : r / 4503599627370496 - 1 = 0 := by omega
    rw [e0]
    by_cases hs : s < 4503599627370496
    · rw [if_pos hs]
      have e1 : s / 4503599627370496 - 1 = 0 := by omega
      rw [e1]; omega
    · rw [if_neg hs]
      have h1 : 1 ≤ 2 ^ (s / 4503599627370496 - 1) := Nat.one_le_two_pow
      calc r * 2 ^ 0 = r := by omega
        _ < 4503599627370496 + s % 4503599627370496 := by omega
        _ = (4503599627370496 + s % 4503599627370496) * 1 := by omega
        _ ≤ _ := Nat.mul_le_mul_left _ h1
  · have hs : ¬ s < 4503599627370496 := by omega
    rw [if_neg hr, if_neg hs]
    by_cases he : r / 4503599627370496 = s / 4503599627370496
    · rw [he]
      exact Nat.mul_lt_mul_of_pos_right (by omega) (Nat.two_pow_pos _)
    · have hlt : r / 4503599627370496 < s / 4503599627370496 := by omega
      obtain ⟨d, hd⟩ : ∃ d, s / 4503599627370496 - 1 = (r / 4503599627370496 - 1) + 1 + d := ⟨s / 4503599627370496 - 1 - ((r / 4503599627370496 - 1) + 1), by omega⟩
      rw [hd, Nat.pow_add, Nat.pow_succ]
      have h1 : 1 ≤ 2 ^ d := Nat.one_le_two_pow
      generalize hp : 2 ^ (r / 4503599627370496 - 1) = p
      have hp0 : 0 < p := by rw [← hp]; exact Nat.two_pow_pos _
      generalize 2 ^ d = q at h1 ⊢
      have a1 : (4503599627370496 + r % 4503599627370496) * p < (9007199254740992) * p := Nat.mul_lt_mul_of_pos_right (by omega) hp0
      have a2 : 9007199254740992 * p ≤ (4503599627370496 + s % 4503599627370496) * (p * 2 * q) := by
        have : p * 2 * 1 ≤ p * 2 * q := Nat.mul_le_mul_left _ h1
        calc 9007199254740992 * p = 4503599627370496 * (p * 2 * 1) := by omega
          _ ≤ 4503599627370496 * (p * 2 * q) := Nat.mul_le_mul_left _ this
          _ ≤ _ := Nat.mul_le_mul_right _ (by omega)
      omega

theorem val_lt_iff {r s : Nat} : val r < val s ↔ r < s := by
  constructor
  · intro h
    by_cases c : r < s
    · exact c
    · have : s = r ∨ s < r := by omega
      rcases this with rfl | h2
      · omega
      · have := val_lt h2; omega
  · exact val_lt

theorem val_zero : val 0 = 0 := by decide

theorem val_pos {r : Nat} (h : 0 < r) : 0 < val r := by
  have := val_lt h; rw [val_zero] at this; exact this

def negB (x : Nat) : Bool := x / 9223372036854775808 % 2 == 1
def rung (x : Nat) : Nat := x % 9223372036854775808
/-- a word's value, in units of the least place -/
def sval (x : Nat) : Int := if negB x then -(val (rung x) : Int) else (val (rung x) : Int)

theorem read_number {x : Nat} (h : rung x < 9218868437227405312) : double.read x = .number (negB x) (mant (rung x)) (-1074 + (ex (rung x) : Nat)) := by
  have e1 : double.signWeight = 9223372036854775808 := by decide
  have e2 : double.binade = 4503599627370496 := by decide
  have e3 : double.infRung = 9218868437227405312 := by decide
  have e4 : double.leastPlace = -1074 := by decide
  unfold Format.read
  rw [e1, e2, e3, e4]
  show (if rung x < 4503599627370496 then Datum.number (negB x) (rung x) (-1074) else if rung x < 9218868437227405312 then Datum.number (negB x) (4503599627370496 + rung x % 4503599627370496) (-1074 + ((rung x / 4503599627370496 - 1 : Nat) : Int)) else if rung x = 9218868437227405312 then Datum.infinity (negB x) else Datum.nan (negB x) (rung x - 9218868437227405312)) = _
  unfold mant ex
  by_cases c : rung x < 4503599627370496
  · rw [if_pos c, if_pos c]
    have : rung x / 4503599627370496 - 1 = 0 := by omega
    rw [this]; rfl
  · rw [if_neg c, if_neg c, if_pos h]

theorem read_inf {x : Nat} (h : rung x = 9218868437227405312) : double.read x = .infinity (negB x) := by
  have e1 : double.signWeight = 9223372036854775808 := by decide
  have e2 : double.binade = 4503599627370496 := by decide
  have e3 : double.infRung = 9218868437227405312 := by decide
  have e4 : double.leastPlace = -1074 := by decide
  unfold Format.read
  rw [e1, e2, e3, e4]
  show (if rung x < 4503599627370496 then Datum.number (negB x) (rung x) (-1074) else if rung x < 9218868437227405312 then Datum.number (negB x) (4503599627370496 + rung x % 4503599627370496) (-1074 + ((rung x / 4503599627370496 - 1 : Nat) : Int)) else if rung x = 9218868437227405312 then Datum.infinity (negB x) else Datum.nan (negB x) (rung x - 9218868437227405312)) = _
  rw [if_neg (by omega), if_neg (by omega), if_pos h]

theorem read_nan {x : Nat} (h : 9218868437227405312 < rung x) : double.read x = .nan (negB x) (rung x - 9218868437227405312) := by
  have e1 : double.signWeight = 9223372036854775808 := by decide
  have e2 : double.binade = 4503599627370496 := by decide
  have e3 : double.infRung = 9218868437227405312 := by decide
  have e4 : double.leastPlace = -1074 := by decide
  unfold Format.read
  rw [e1, e2, e3, e4]
  show (if rung x < 4503599627370496 then Datum.number (negB x) (rung x) (-1074) else if rung x < 9218868437227405312 then Datum.number (negB x) (4503599627370496 + rung x % 4503599627370496) (-1074 + ((rung x / 4503599627370496 - 1 : Nat) : Int)) else if rung x = 9218868437227405312 then Datum.infinity (negB x) else Datum.nan (negB x) (rung x - 9218868437227405312)) = _
  rw [if_neg (by omega), if_neg (by omega), if_neg (by omega)]

/-- is it a NaN? -/
def nanB (x : Nat) : Bool := decide (9218868437227405312 < rung x)

theorem cmp_int {a b c d : Int} (h1 : a < b ↔ c < d) (h2 : b < a ↔ d < c) : compare a b = compare c d := by
  rcases Int.lt_trichotomy a b with h | h | h
  · rw [Int.compare_eq_lt.2 h, Int.compare_eq_lt.2 (h1.1 h)]
  · have e : c = d := by
      subst h
      have : ¬ c < d := fun q => by have := h1.2 q; omega
      have : ¬ d < c := fun q => by have := h2.2 q; omega
      omega
    rw [Int.compare_eq_eq.2 h, Int.compare_eq_eq.2 e]
  · rw [Int.compare_eq_gt.2 h, Int.compare_eq_gt.2 (h2.1 h)]

theorem signed_eq (s : Bool) (m u : Nat) : signed s m u = if s then -((m * 2 ^ u : Nat) : Int) else ((m * 2 ^ u : Nat) : Int) := by
  unfold signed; rw [Nat.shiftLeft_eq]

theorem order_numbers (s t : Bool) (m n i j : Nat) : Datum.order (.number s m (-1074 + (i : Nat))) (.number t n (-1074 + (j : Nat))) =
    some (compare (if s then -((m * 2 ^ i : Nat) : Int) else ((m * 2 ^ i : Nat) : Int)) (if t then -((n * 2 ^ j : Nat) : Int) else ((n * 2 ^ j : Nat) : Int))) := by
  show some (compare (signed s m ((-1074 + (i : Int)) - min (-1074 + (i : Int)) (-1074 + (j : Int))).toNat) (signed t n ((-1074 + (j : Int)) - min (-1074 + (i : Int)) (-1074 + (j : Int))).toNat)) = _
  have ei : ((-1074 + (i : Int)) - min (-1074 + (i : Int)) (-1074 + (j : Int))).toNat = i - min i j := by omega
  have ej : ((-1074 + (j : Int)) - min (-1074 + (i : Int)) (-1074 + (j : Int))).toNat = j - min i j := by omega
  rw [ei, ej, signed_eq, signed_eq]
  have hi : m * 2 ^ i = (m * 2 ^ (i - min i j)) * 2 ^ (min i j) := by
    rw [Nat.mul_assoc, ← Nat.pow_add, Nat.sub_add_cancel (Nat.min_le_left _ _)]
  have hj : n * 2 ^ j = (n * 2 ^ (j - min i j)) * 2 ^ (min i j) := by
    rw [Nat.mul_assoc, ← Nat.pow_add, Nat.sub_add_cancel (Nat.min_le_right _ _)]
  rw [hi, hj]
  generalize m * 2 ^ (i - min i j) = A
  generalize n * 2 ^ (j - min i j) = B
  have hp : 0 < 2 ^ min i j := Nat.two_pow_pos _
  generalize 2 ^ min i j = p at hp
  congr 1
  have k1 : ∀ a b : Int, a < b ↔ a * (p : Int) < b * (p : Int) := fun a b =>
    ⟨fun h => Int.mul_lt_mul_of_pos_right h (by omega), fun h => Int.lt_of_mul_lt_mul_right h (by omega)⟩
  have r1 : ∀ (q : Bool) (A : Nat), (if q = true then -((A * p : Nat) : Int) else ((A * p : Nat) : Int)) = (if q = true then -(A : Int) else (A : Int)) * (p : Int) := by
    intro q A
    cases q
    · simp
    · simp [Int.neg_mul]
  rw [r1, r1]
  exact cmp_int (k1 _ _) (k1 _ _)

theorem order_sval {x y : Nat} (hx : nanB x = false) (hy : nanB y = false) : double.order x y = some (compare (sval x) (sval y)) := by
  have hx' : rung x ≤ 9218868437227405312 := by unfold nanB at hx; simpa using hx
  have hy' : rung y ≤ 9218868437227405312 := by unfold nanB at hy; simpa using hy
  unfold Format.order
  by_cases cx : rung x < 9218868437227405312
  · rw [read_number cx]
    by_cases cy : rung y < 9218868437227405312
    · rw [read_number cy, order_numbers]
      rfl
    · have cy' : rung y = 9218868437227405312 := by omega
      rw [read_inf cy']
      have hv := val_lt cx
      rw [← cy'] at hv
      unfold sval
      show some (if negB y then Ordering.gt else Ordering.lt) = _
      congr 1
      cases hb : negB y <;> cases ha : negB x <;> simp only [if_true, if_false, Bool.false_eq_true]
      · rw [Int.compare_eq_lt.2 (by omega)]
      · rw [Int.compare_eq_lt.2 (by omega)]
      · rw [Int.compare_eq_gt.2 (by omega)]
      · rw [Int.compare_eq_gt.2 (by omega)]
  · have cx' : rung x = 9218868437227405312 := by omega
    rw [read_inf cx']
    by_cases cy : rung y < 9218868437227405312
    · rw [read_number cy]
      have hv := val_lt cy
      rw [← cx'] at hv
      unfold sval
      show some (if negB x then Ordering.lt else Ordering.gt) = _
      congr 1
      cases hb : negB y <;> cases ha : negB x <;> simp only [if_true, if_false, Bool.false_eq_true]
      · rw [Int.compare_eq_gt.2 (by omega)]
      · rw [Int.compare_eq_lt.2 (by omega)]
      · rw [Int.compare_eq_gt.2 (by omega)]
      · rw [Int.compare_eq_lt.2 (by omega)]
    · have cy' : rung y = 9218868437227405312 := by omega
      rw [read_inf cy']
      have hp : 0 < val 9218868437227405312 := val_pos (by omega)
      show some (compare (negB y).toNat (negB x).toNat) = _
      unfold sval
      rw [cx', cy']
      congr 1
      cases hb : negB y <;> cases ha : negB x <;> simp only [if_true, if_false, Bool.false_eq_true]
      · rw [Int.compare_eq_eq.2 rfl]; rfl
      · rw [Int.compare_eq_lt.2 (by omega)]; rfl
      · rw [Int.compare_eq_gt.2 (by omega)]; rfl
      · rw [Int.compare_eq_eq.2 rfl]; rfl

theorem order_nan_left {x : Nat} (y : Nat) (hx : nanB x = true) : double.order x y = none := by
  have hx' : 9218868437227405312 < rung x := by unfold nanB at hx; simpa using hx
  unfold Format.order
  rw [read_nan hx']; rfl

theorem order_nan_right (x : Nat) {y : Nat} (hy : nanB y = true) : double.order x y = none := by
  have hy' : 9218868437227405312 < rung y := by unfold nanB at hy; simpa using hy
  unfold Format.order
  rw [read_nan hy']
  cases double.read x <;> rfl

theorem neq_self (x : Nat) : (double.order x x != some .eq) = nanB x := by
  cases h : nanB x
  · rw [order_sval h h, Int.compare_eq_eq.2 rfl]; rfl
  · rw [order_nan_left x h]; rfl

/-- a float's place in the order -/
def key (x : Nat) : Nat := if nanB x then 9221120237041090561 + 9223372036854775808 else if x < 9223372036854775808 then x + 9223372036854775808 else 18446744073709551615 - x

theorem sval_key {x y : Nat} (hx : nanB x = false) (hy : nanB y = false) (bx : x < 18446744073709551616) (by' : y < 18446744073709551616) (hz : ¬ (rung x = 0 ∧ rung y = 0)) :
    sval x < sval y ↔ key x < key y := by
  unfold key
  rw [hx, hy]
  simp only [Bool.false_eq_true, if_false]
  have nx : negB x = decide (9223372036854775808 ≤ x) := by
    unfold negB
    rw [Bool.eq_iff_iff]; simp; omega
  have ny : negB y = decide (9223372036854775808 ≤ y) := by
    unfold negB
    rw [Bool.eq_iff_iff]; simp; omega
  have h1 := @val_lt_iff (rung x) (rung y)
  have h2 := @val_lt_iff (rung y) (rung x)
  have p1 : rung x ≠ 0 → 0 < val (rung x) := fun h => val_pos (by omega)
  have p2 : rung y ≠ 0 → 0 < val (rung y) := fun h => val_pos (by omega)
  have rx : rung x = if 9223372036854775808 ≤ x then x - 9223372036854775808 else x := by unfold rung; split <;> omega
  have ry : rung y = if 9223372036854775808 ≤ y then y - 9223372036854775808 else y := by unfold rung; split <;> omega
  unfold sval
  rw [nx, ny]
  generalize val (rung x) = vx at *
  generalize val (rung y) = vy at *
  by_cases cx : 9223372036854775808 ≤ x <;> by_cases cy : 9223372036854775808 ≤ y
  · rw [if_pos cx] at rx; rw [if_pos cy] at ry
    rw [if_pos (by simpa using cx), if_pos (by simpa using cy), if_neg (by omega), if_neg (by omega)]
    omega
  · rw [if_pos cx] at rx; rw [if_neg cy] at ry
    rw [if_pos (by simpa using cx), if_neg (by simpa using cy), if_neg (by omega), if_pos (by omega)]
    omega
  · rw [if_neg cx] at rx; rw [if_pos cy] at ry
    rw [if_neg (by simpa using cx), if_pos (by simpa using cy), if_pos (by omega), if_neg (by omega)]
    omega
  · rw [if_neg cx] at rx; rw [if_neg cy] at ry
    rw [if_neg (by simpa using cx), if_neg (by simpa using cy), if_pos (by omega), if_pos (by omega)]
    omega

def bitsN (x : Nat) : Nat := if nanB x = true then 9221120237041090561 else x
def cmpI (x y : Nat) : Int := if x < y then -1 else if y < x then 1 else 0

theorem bitsN_lt {x : Nat} (h : x < 18446744073709551616) : bitsN x < 18446744073709551616 := by
  unfold bitsN; split <;> omega

theorem key_bits (x : Nat) : key x = if bitsN x < 9223372036854775808 then bitsN x + 9223372036854775808 else 18446744073709551615 - bitsN x := by
  unfold key bitsN
  cases h : nanB x
  · simp
  · simp only [if_true]
    rw [if_pos (by decide)]

/-- what a float operation may hand back: its value where there is one, else a NaN of whatever bits -/
def FR (o : Option Nat) (r : Nat) : Prop := (o = some r ∨ (o = none ∧ nanB r = true)) ∧ r < 18446744073709551616

theorem FR.same {o : Option Nat} {a b : Nat} (h : FR o a) (k : FR o b) : bitsN a = bitsN b := by
  rcases h.1 with h1 | ⟨h1, h2⟩
  · rcases k.1 with k1 | ⟨k1, k2⟩
    · rw [h1] at k1; cases k1; rfl
    · rw [h1] at k1; cases k1
  · rcases k.1 with k1 | ⟨k1, k2⟩
    · rw [h1] at k1; cases k1
    · unfold bitsN; rw [h2, k2]; rfl

theorem nan_cut (x y t : Nat) : nanB (Question.cut (.nanBits .f64 x y) t) = true ∧ Question.cut (.nanBits .f64 x y) t < 18446744073709551616 := by
  show nanB ((t % 2) * 2 ^ 63 + 0x7ff0000000000000 + 1 + (t / 2) % (2 ^ 52 - 1)) = true ∧ ((t % 2) * 2 ^ 63 + 0x7ff0000000000000 + 1 + (t / 2) % (2 ^ 52 - 1)) < 18446744073709551616
  have h1 : (t / 2) % (2 ^ 52 - 1) < 2 ^ 52 - 1 := Nat.mod_lt _ (by decide)
  generalize (t / 2) % (2 ^ 52 - 1) = q at h1
  refine ⟨?_, by omega⟩
  unfold nanB rung
  rw [decide_eq_true_eq]
  omega
end Go.Proofs.Ytfeldgkjgfjeeaa.Fl
