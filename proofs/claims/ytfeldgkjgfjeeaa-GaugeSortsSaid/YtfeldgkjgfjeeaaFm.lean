/- Plain facts on 64-bit floats, continued: chains of operations; a product cut to an integer. No Go in sight. -/
import Derived.Test.YtfeldgkjgfjeeaaFl
namespace Go.Proofs.Ytfeldgkjgfjeeaa.Fl
open Ieee

theorem read_isNaN {x : Nat} (h : nanB x = true) : ∃ s f, double.read x = .nan s f := by
  unfold nanB at h
  exact ⟨_, _, read_nan (by simpa using h)⟩

theorem op_nan_left (op : BinOp) {x : Nat} (y : Nat) (h : nanB x = true) : floatBits op .f64 x y = none := by
  obtain ⟨s, f, e⟩ := read_isNaN h
  cases op <;> try rfl
  · show (((double.read x).sum (double.read y)).map double.write) = none
    rw [e]; rfl
  · show (((double.read x).sum (double.read y).opposite).map double.write) = none
    rw [e]; rfl
  · show (((double.read x).product (double.read y)).map double.write) = none
    rw [e]; rfl
  · show (((double.read x).quotient (double.fractionBits + 2) (double.read y)).map double.write) = none
    rw [e]; rfl

theorem op_nan_right (op : BinOp) (x : Nat) {y : Nat} (h : nanB y = true) : floatBits op .f64 x y = none := by
  obtain ⟨s, f, e⟩ := read_isNaN h
  cases op <;> try rfl
  · show (((double.read x).sum (double.read y)).map double.write) = none
    rw [e]; cases double.read x <;> rfl
  · show (((double.read x).sum (double.read y).opposite).map double.write) = none
    rw [e]; cases double.read x <;> rfl
  · show (((double.read x).product (double.read y)).map double.write) = none
    rw [e]; cases double.read x <;> rfl
  · show (((double.read x).quotient (double.fractionBits + 2) (double.read y)).map double.write) = none
    rw [e]; cases double.read x <;> rfl

theorem FR.left {o : Option Nat} {r : Nat} (h : FR o r) (op : BinOp) (y : Nat) : floatBits op .f64 r y = o.bind fun a => floatBits op .f64 a y := by
  rcases h.1 with h1 | ⟨h1, h2⟩
  · rw [h1]; rfl
  · rw [h1]; exact op_nan_left op y h2
theorem FR.right {o : Option Nat} {r : Nat} (h : FR o r) (op : BinOp) (x : Nat) : floatBits op .f64 x r = o.bind fun a => floatBits op .f64 x a := by
  rcases h.1 with h1 | ⟨h1, h2⟩
  · rw [h1]; rfl
  · rw [h1]; exact op_nan_right op x h2

/-- what 'Smooth' gives -/
def smoothO (was x part : Nat) : Option Nat :=
  ((floatBits .sub .f64 x was).bind fun a => floatBits .mul .f64 a part).bind fun a => floatBits .add .f64 was a

/-- a magnitude: a word that is no NaN and has no sign -/
def Mag (r : Nat) : Prop := r ≤ 9218868437227405312

theorem Mag.nan {r : Nat} (h : Mag r) : nanB r = false := by
  unfold Mag at h; unfold nanB rung
  rw [decide_eq_false_iff_not]; omega
theorem Mag.neg {r : Nat} (h : Mag r) : negB r = false := by
  unfold Mag at h; unfold negB
  have : r / 9223372036854775808 = 0 := Nat.div_eq_of_lt (by omega)
  rw [this]; rfl
theorem Mag.rung {r : Nat} (h : Mag r) : rung r = r := by
  unfold Mag at h; unfold Fl.rung; omega

theorem word_false (f : Format) (r : Nat) : f.word false r = r := rfl
theorem nearest_le (f : Format) (m : Nat) (p : Int) : f.nearest false m p ≤ f.infRung := by
  unfold Format.nearest
  dsimp only
  split
  · rw [word_false]; exact Nat.zero_le _
  · rw [word_false]; exact Nat.min_le_right _ _
theorem inf_rung : double.infRung = 9218868437227405312 := by decide
theorem write_mag (m : Nat) (p : Int) : Mag (double.write (.number false m p)) := by
  have h := nearest_le double m p
  rw [inf_rung] at h
  exact h
theorem write_inf_mag : Mag (double.write (.infinity false)) := by
  have h : double.write (.infinity false) = double.infRung := rfl
  unfold Mag
  rw [h, inf_rung]
  exact Nat.le_refl _

theorem flt_mag {n : Int} (h : 0 ≤ n) : Mag (floatOfInt .f64 n) := by
  have e : decide (n < 0) = false := decide_eq_false (by omega)
  show Mag (double.write (.number (decide (n < 0)) n.natAbs 0))
  rw [e]; exact write_mag _ _

theorem mag_of_pos {x : Nat} (hb : x < 18446744073709551616) (h : (double.order x 0 == some Ordering.gt) = true) : Mag x ∧ 0 < x := by
  rw [beq_iff_eq] at h
  have hn : nanB x = false := by
    cases hn : nanB x
    · rfl
    · rw [order_nan_left 0 hn] at h; cases h
  rw [order_sval hn (by decide)] at h
  have h2 := Int.compare_eq_gt.1 (Option.some.inj h)
  have e0 : sval 0 = 0 := by decide
  rw [e0] at h2
  unfold sval at h2
  unfold nanB at hn
  have hn' : rung x ≤ 9218868437227405312 := by simpa using hn
  unfold Mag
  cases hs : negB x
  · rw [hs] at h2
    unfold negB at hs
    have hx : x / 9223372036854775808 % 2 ≠ 1 := by simpa using hs
    have hx' : rung x = x := by unfold rung; omega
    refine ⟨by omega, ?_⟩
    rcases Nat.eq_zero_or_pos x with e | e
    · subst e
      rw [show val (rung 0) = 0 from by decide] at h2
      simp at h2
    · exact e
  · rw [hs] at h2
    simp only [if_true] at h2
    omega

theorem mul_mag {x y : Nat} (hx : Mag x) (h0 : 0 < x) (hi : x < 9218868437227405312) (hy : Mag y) : ∃ r, floatBits .mul .f64 x y = some r ∧ Mag r := by
  have ex : double.read x = .number false (mant x) (-1074 + (ex x : Nat)) := by
    have := read_number (x := x) (by rw [hx.rung]; exact hi)
    rwa [hx.neg, hx.rung] at this
  have hm : mant x ≠ 0 := by unfold mant; split <;> omega
  show ∃ r, (((double.read x).product (double.read y)).map double.write) = some r ∧ Mag r
  rw [ex]
  by_cases cy : y < 9218868437227405312
  · have ey := read_number (x := y) (by rw [hy.rung]; exact cy)
    rw [hy.neg, hy.rung] at ey
    rw [ey]
    exact ⟨_, rfl, write_mag _ _⟩
  · have ey := read_inf (x := y) (by rw [hy.rung]; unfold Mag at hy; omega)
    rw [hy.neg] at ey
    rw [ey]
    show ∃ r, ((if mant x = 0 then none else some (Datum.infinity false)).map double.write) = some r ∧ Mag r
    rw [if_neg hm]
    exact ⟨_, rfl, write_inf_mag⟩

/-- 'not (x ≥ c)' of two magnitudes -/
theorem lt_of_ngeq {x c : Nat} (hx : Mag x) (hc : Mag c) (h : (double.order x c == some Ordering.gt || double.order x c == some Ordering.eq) = false) : x < c := by
  rw [order_sval hx.nan hc.nan] at h
  unfold sval at h
  rw [hx.neg, hc.neg, hx.rung, hc.rung] at h
  simp only [Bool.false_eq_true, if_false] at h
  rcases Nat.lt_or_ge x c with h1 | h1
  · exact h1
  · rcases Nat.lt_or_ge c x with h2 | h2
    · have := val_lt h2
      rw [Int.compare_eq_gt.2 (by omega)] at h
      simp at h
    · obtain rfl : x = c := by omega
      rw [Int.compare_eq_eq.2 rfl] at h
      simp at h

theorem toInt_ok {r : Nat} (hr : Mag r) (h : r < 4890909195324358656) : ∃ k, floatToIntVal .f64 r .i64 = some k := by
  have er := read_number (x := r) (by rw [hr.rung]; omega)
  rw [hr.neg, hr.rung] at er
  have hv := val_lt h
  obtain ⟨K, hK⟩ : ∃ K : Nat, K = 1074 := ⟨_, rfl⟩
  have hc : val 4890909195324358656 = 9223372036854775808 * 2 ^ K := by
    have h1 : mant 4890909195324358656 = 4503599627370496 := by decide
    have h2 : ex 4890909195324358656 = 11 + 1074 := by decide
    have h3 : ∀ k e : Nat, e = 11 + k → 4503599627370496 * 2 ^ e = 9223372036854775808 * 2 ^ k := by
      intro k e he
      rw [he, Nat.pow_add, ← Nat.mul_assoc]
    unfold val
    rw [h1]
    exact h3 K _ (by rw [h2, hK])
  rw [hc] at hv
  unfold val at hv
  have key : ∃ c : Nat, Datum.toInt .zero (double.read r) = some ((c : Nat) : Int) ∧ c < 9223372036854775808 := by
    rw [er]
    refine ⟨Toward.zero.cut false (mant r <<< ((-1074 + (ex r : Nat) : Int)).toNat) (-(-1074 + (ex r : Nat) : Int)).toNat, ?_, ?_⟩
    · show some (signed false _ 0) = _
      rw [signed_eq]; simp
    · show (mant r <<< ((-1074 + (ex r : Nat) : Int)).toNat) / (1 <<< min _ _) + 0 < _
      by_cases hi : 1074 ≤ ex r
      · have e1 : ((-1074 + (ex r : Nat) : Int)).toNat = ex r - K := by omega
        refine Nat.lt_of_le_of_lt (Nat.div_le_self _ _) ?_
        rw [e1, Nat.shiftLeft_eq]
        have e2 : mant r * 2 ^ ex r = (mant r * 2 ^ (ex r - K)) * 2 ^ K := by
          rw [Nat.mul_assoc, ← Nat.pow_add, Nat.sub_add_cancel (by omega)]
        rw [e2] at hv
        exact Nat.lt_of_mul_lt_mul_right hv
      · have e1 : ((-1074 + (ex r : Nat) : Int)).toNat = 0 := by omega
        refine Nat.lt_of_le_of_lt (Nat.div_le_self _ _) ?_
        rw [e1, Nat.shiftLeft_zero]
        clear hv hc
        unfold mant
        split <;> omega
  obtain ⟨c, hc1, hc2⟩ := key
  refine ⟨c, ?_⟩
  unfold floatToIntVal
  show (match Datum.toInt .zero (double.read r) with | some n => if IntKind.i64.min ≤ n ∧ n ≤ IntKind.i64.max then some n else none | none => none) = _
  rw [hc1]
  show (if (-9223372036854775808 : Int) ≤ (c : Int) ∧ (c : Int) ≤ 9223372036854775807 then some (c : Int) else none) = _
  rw [if_pos (by omega)]
end Go.Proofs.Ytfeldgkjgfjeeaa.Fl
