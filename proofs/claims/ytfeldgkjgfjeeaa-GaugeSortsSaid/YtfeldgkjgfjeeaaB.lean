/- Contracts, continued: the reference's key and order; the program's order, sameness, ratio, worth, clamp, smoothing, steps; 'live'. -/
import Derived.Test.YtfeldgkjgfjeeaaA
namespace Go.Proofs.Ytfeldgkjgfjeeaa
open Go.RowKit Fl

set_option maxHeartbeats 400000 in
theorem rkey_any (x : Nat) (hx : x < 18446744073709551616) (w : World) :
    Calls Try.prog 17 #[.float .f64 x] w fun e w' => e = .returned (.int .u64 (key x : Int)) ∧ w = w' := by
  have hk := key_bits x
  have hb := bitsN_lt hx
  have HB := Lib.hid (bits_any x w)
  by_cases hs : bitsN x < 9223372036854775808
  · rw [if_pos hs] at hk
    have H := Lib.hid hk
    clear hk hx
    generalize bitsN x = b at *
    have h1 : decide ((b : Int) < 9223372036854775808) = true := decide_eq_true (by omega)
    have hv := Lib.hid (show IntKind.u64.wrap ((b : Int) + 9223372036854775808) = (key x : Int) from by rw [IntWalk.u64_in _ (by omega), H.out]; omega)
    clear hs hb H
    go_enter Try.func17, Try.ntmps17
    go_wp2_with fail
    refine (HB.out).mono ?_
    rintro e w' ⟨rfl, rfl⟩
    go_wp2_with fail
    go_ret
    exact ⟨ret_int hv.out, rfl⟩
  · rw [if_neg hs] at hk
    have H := Lib.hid hk
    clear hk hx
    generalize bitsN x = b at *
    have h1 : decide ((b : Int) < 9223372036854775808) = false := decide_eq_false (by omega)
    have hv := Lib.hid (show IntKind.u64.wrap (18446744073709551615 - (b : Int)) = (key x : Int) from by rw [IntWalk.u64_in _ (by omega), H.out]; omega)
    clear hs hb H
    go_enter Try.func17, Try.ntmps17
    go_wp2_with fail
    refine (HB.out).mono ?_
    rintro e w' ⟨rfl, rfl⟩
    go_wp2_with fail
    go_ret
    exact ⟨ret_int hv.out, rfl⟩

set_option maxHeartbeats 400000 in
theorem order_any (x y : Nat) (hx : x < 18446744073709551616) (hy : y < 18446744073709551616) (w : World) :
    Calls Try.prog 15 #[.float .f64 x, .float .f64 y] w fun e w' => e = .returned (.int .i64 (cmpI (key x) (key y))) ∧ w = w' := by
  have H1 := Lib.hid (key_any x hx w)
  have H2 := Lib.hid (key_any y hy w)
  have H3 := Lib.hid (cmp_any (key x) (key y) w)
  clear hx hy
  generalize key x = kx at *
  generalize key y = ky at *
  go_enter Try.func15, Try.ntmps15
  go_wp2_with fail
  refine (H1.out).mono ?_
  rintro e w' ⟨rfl, rfl⟩
  go_wp2_with fail
  refine (H2.out).mono ?_
  rintro e w' ⟨rfl, rfl⟩
  go_wp2_with fail
  refine (H3.out).mono ?_
  rintro e w' ⟨rfl, rfl⟩
  go_wp2_with fail
  go_ret
  exact ⟨rfl, rfl⟩

set_option maxHeartbeats 400000 in
theorem same_any (x y : Nat) (hx : x < 18446744073709551616) (hy : y < 18446744073709551616) (w : World) :
    Calls Try.prog 19 #[.float .f64 x, .float .f64 y] w fun e w' => e = .returned (.bool ((key x : Int) == (key y : Int))) ∧ w = w' := by
  have H1 := Lib.hid (key_any x hx w)
  have H2 := Lib.hid (key_any y hy w)
  clear hx hy
  generalize key x = kx at *
  generalize key y = ky at *
  go_enter Try.func19, Try.ntmps19
  go_wp2_with fail
  refine (H1.out).mono ?_
  rintro e w' ⟨rfl, rfl⟩
  go_wp2_with fail
  refine (H2.out).mono ?_
  rintro e w' ⟨rfl, rfl⟩
  go_wp2_with fail
  go_ret
  exact ⟨by simp, rfl⟩

set_option maxHeartbeats 400000 in
theorem rorder_any (x y : Nat) (hx : x < 18446744073709551616) (hy : y < 18446744073709551616) (w : World) :
    Calls Try.prog 18 #[.float .f64 x, .float .f64 y] w fun e w' => e = .returned (.int .i64 (cmpI (key x) (key y))) ∧ w = w' := by
  have H1 := Lib.hid (rkey_any x hx w)
  have H2 := Lib.hid (rkey_any y hy w)
  clear hx hy
  generalize key x = kx at *
  generalize key y = ky at *
  by_cases h1 : kx < ky
  · have H := Lib.hid (show (-1 : Int) = cmpI kx ky from by unfold cmpI; rw [if_pos h1])
    go_enter Try.func18, Try.ntmps18
    go_wp2_with fail
    refine (H1.out).mono ?_
    rintro e w' ⟨rfl, rfl⟩
    go_wp2_with fail
    refine (H2.out).mono ?_
    rintro e w' ⟨rfl, rfl⟩
    go_wp2_with fail
    go_ret
    exact ⟨ret_int H.out, rfl⟩
  · by_cases h2 : ky < kx
    · have H := Lib.hid (show (1 : Int) = cmpI kx ky from by unfold cmpI; rw [if_neg h1, if_pos h2])
      go_enter Try.func18, Try.ntmps18
      go_wp2_with fail
      refine (H1.out).mono ?_
      rintro e w' ⟨rfl, rfl⟩
      go_wp2_with fail
      refine (H2.out).mono ?_
      rintro e w' ⟨rfl, rfl⟩
      go_wp2_with fail
      go_ret
      exact ⟨ret_int H.out, rfl⟩
    · have H := Lib.hid (show (0 : Int) = cmpI kx ky from by unfold cmpI; rw [if_neg h1, if_neg h2])
      go_enter Try.func18, Try.ntmps18
      go_wp2_with fail
      refine (H1.out).mono ?_
      rintro e w' ⟨rfl, rfl⟩
      go_wp2_with fail
      refine (H2.out).mono ?_
      rintro e w' ⟨rfl, rfl⟩
      go_wp2_with fail
      go_ret
      exact ⟨ret_int H.out, rfl⟩

def likeB (a b : Nat) : Bool := (bitsN a : Int) == (bitsN b : Int)
set_option maxHeartbeats 400000 in
theorem like_any (x y : Nat) (w : World) :
    Calls Try.prog 9 #[.float .f64 x, .float .f64 y] w fun e w' => e = .returned (.bool (likeB x y)) ∧ w = w' := by
  have H1 := Lib.hid (bits_any x w)
  have H2 := Lib.hid (bits_any y w)
  have H := Lib.hid (show likeB x y = ((bitsN x : Int) == (bitsN y : Int)) from rfl)
  generalize bitsN x = bx at *
  generalize bitsN y = b2 at *
  go_enter Try.func9, Try.ntmps9
  go_wp2_with fail
  refine (H1.out).mono ?_
  rintro e w' ⟨rfl, rfl⟩
  go_wp2_with fail
  refine (H2.out).mono ?_
  rintro e w' ⟨rfl, rfl⟩
  go_wp2_with fail
  go_ret
  exact ⟨by rw [H.out]; simp, rfl⟩

/-- a world, some draws later -/
def Drawn (w w' : World) : Prop := ∃ n, w' = w.drewN n
def SomeFloat (o : Option Nat) (w : World) (e : Ending) (w' : World) : Prop := ∃ r, e = .returned (.float .f64 r) ∧ FR o r ∧ Drawn w w'

set_option maxHeartbeats 400000 in
theorem ratio_any (a b : Int) (w : World) :
    Calls Try.prog 10 #[.int .i64 a, .int .i64 b] w (SomeFloat (floatBits .quo .f64 (floatOfInt .f64 a) (floatOfInt .f64 b)) w) := by
  obtain ⟨r, n, hrun, hr⟩ := run_float_any .quo 24 (floatOfInt .f64 a) (floatOfInt .f64 b) w (by simp)
  have HR := Lib.hid hr
  clear hr
  go_enter Try.func10, Try.ntmps10
  go_wp2_with fail
  go_ret
  exact ⟨r, rfl, HR.out, n, rfl⟩

def SomeBool (P : Bool → Prop) (w : World) (e : Ending) (w' : World) : Prop := ∃ b, e = .returned (.bool b) ∧ P b ∧ Drawn w w'
/-- 'is x less than what the product gives?' -/
def lessOf (x : Nat) (o : Option Nat) : Bool := match o with | some r => Ieee.double.order x r == some .lt | none => false

theorem less_FR {o : Option Nat} {r : Nat} (x : Nat) (h : FR o r) : (Ieee.double.order x r == some .lt) = lessOf x o := by
  rcases h.1 with h1 | ⟨h1, h2⟩
  · rw [h1]; rfl
  · rw [h1, order_nan_right x h2]; rfl

set_option maxHeartbeats 400000 in
theorem worth_any (a b : Int) (l : Nat) (w : World) :
    Calls Try.prog 11 #[.int .i64 a, .int .i64 b, .float .f64 l] w (SomeBool (· = lessOf (floatOfInt .f64 b) (floatBits .mul .f64 (floatOfInt .f64 a) l)) w) := by
  obtain ⟨r, n, hrun, hr⟩ := run_float_any .mul 24 (floatOfInt .f64 a) l w (by simp)
  have HR := Lib.hid (less_FR (floatOfInt .f64 b) hr)
  clear hr
  go_enter Try.func11, Try.ntmps11
  go_wp2_with fail
  go_ret
  exact ⟨_, rfl, HR.out, n, rfl⟩

set_option maxHeartbeats 400000 in
theorem rworth_any (a b : Int) (l : Nat) (w : World) :
    Calls Try.prog 13 #[.int .i64 a, .int .i64 b, .float .f64 l] w (SomeBool (· = lessOf (floatOfInt .f64 b) (floatBits .mul .f64 (floatOfInt .f64 a) l)) w) := by
  obtain ⟨r, n, hrun, hr⟩ := run_float_any .mul 24 (floatOfInt .f64 a) l w (by simp)
  have HR := Lib.hid (less_FR (floatOfInt .f64 b) hr)
  clear hr
  go_enter Try.func13, Try.ntmps13
  go_wp2_with fail
  go_ret
  exact ⟨_, rfl, HR.out, n, rfl⟩
end Go.Proofs.Ytfeldgkjgfjeeaa
