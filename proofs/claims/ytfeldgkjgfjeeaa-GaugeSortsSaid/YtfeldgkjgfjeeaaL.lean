/- The walks of four laws: ratios, orders, the total order, clamps. -/
import Derived.Test.YtfeldgkjgfjeeaaD
namespace Go.Proofs.Ytfeldgkjgfjeeaa
open Go.RowKit Fl

theorem Drawn.grown {a b : World} (h : Drawn a b) : Grown a b := by
  obtain ⟨n, rfl⟩ := h
  induction n with
  | zero => exact Grown.refl _
  | succ n ih => exact Grown.drew ih

theorem key_eq_iff (x y : Nat) : (((key x : Int) == (key y : Int)) == (cmpI (key x) (key y) == 0)) = true := by
  rw [beq_iff_eq, Bool.eq_iff_iff, beq_iff_eq, beq_iff_eq]
  unfold cmpI
  by_cases h : key x < key y
  · rw [if_pos h]; omega
  · rw [if_neg h]
    by_cases h2 : key y < key x
    · rw [if_pos h2]; omega
    · rw [if_neg h2]; omega

theorem u64_nat {a : Int} (h : (Lit.int .u64 a).wf = true) : ∃ n : Nat, a = n ∧ n < 18446744073709551616 := by
  have hb : 0 ≤ a ∧ a ≤ 18446744073709551615 := by simpa [Lit.wf, IntKind.min, IntKind.max, IntKind.signed, IntKind.bits] using h
  exact ⟨a.toNat, by omega, by omega⟩

set_option maxHeartbeats 400000 in
theorem ratios_walk (a0 a1 a2 : Int) (w2 : (Lit.int .u64 a2).wf = true) (w : World) :
    Calls Try.prog 3 #[.int .i64 a0, .int .i64 a1, .int .u64 a2] w fun e w' => e = .returned (.bool true) ∧ Grown w w' := by
  obtain ⟨l, rfl, hl⟩ := u64_nat w2
  clear w2
  obtain ⟨r, n, hrun, hr⟩ := run_float_any .quo 24 (floatOfInt .f64 a0) (floatOfInt .f64 a1) w (by simp)
  have h1 := fun w => Lib.hid (ratio_any a0 a1 w)
  have h2 := fun w => Lib.hid (of_any l w)
  have h3 := fun w => Lib.hid (worth_any a0 a1 l w)
  have h4 := fun w => Lib.hid (rworth_any a0 a1 l w)
  have h5 := fun w => Lib.hid (live_any w)
  clear hl hrun hr
  generalize lessOf (floatOfInt .f64 a1) (floatBits .mul .f64 (floatOfInt .f64 a0) l) = lb at *
  go_enter Try.func3, Try.ntmps3
  go_wp2_with fail
  refine (h1 _).out.mono ?_
  rintro e w1 ⟨r1, rfl, hr1, hd1⟩
  obtain ⟨r2, n2, hrun2, hr2⟩ := run_float_any .quo 24 (floatOfInt .f64 a0) (floatOfInt .f64 a1) w1 (by simp)
  have HL := Lib.hid (likeB_of (hr1.same hr2))
  have D1 := Lib.hid hd1
  clear hr1 hr2 hd1
  go_wp2_with fail
  refine (like_any _ _ _).mono ?_
  rw [HL.out]
  rintro e w3 ⟨rfl, rfl⟩
  go_wp2_with fail
  refine (h2 _).out.mono ?_
  rintro e w4 ⟨rfl, rfl⟩
  go_wp2_with fail
  refine (h3 _).out.mono ?_
  rintro e w5 ⟨b1, rfl, hb1, hd5⟩
  have B1 := Lib.hid hb1
  have D5 := Lib.hid hd5
  clear hb1 hd5
  go_wp2_with fail
  refine (h2 _).out.mono ?_
  rintro e w6 ⟨rfl, rfl⟩
  go_wp2_with fail
  refine (h4 _).out.mono ?_
  rintro e w7 ⟨b2, rfl, hb2, hd7⟩
  have hbb : (b1 == b2) = true := by rw [B1.out, hb2]; simp
  have D7 := Lib.hid hd7
  clear hb2 hd7
  go_wp2_with fail
  refine (h5 _).out.mono ?_
  rintro e w8 ⟨rfl, hd8⟩
  have D8 := Lib.hid hd8
  clear hd8
  go_wp2_with fail
  go_ret
  exact ⟨rfl, Drawn.grown (D1.out.trans (Drawn.trans ⟨n2, rfl⟩ (D5.out.trans (D7.out.trans D8.out))))⟩

set_option maxHeartbeats 400000 in
theorem orders_walk (a0 a1 : Int) (w0 : (Lit.int .u64 a0).wf = true) (w1 : (Lit.int .u64 a1).wf = true) (w : World) :
    Calls Try.prog 5 #[.int .u64 a0, .int .u64 a1] w fun e w' => e = .returned (.bool true) ∧ Grown w w' := by
  obtain ⟨x, rfl, hx⟩ := u64_nat w0
  obtain ⟨y, rfl, hy⟩ := u64_nat w1
  clear w0 w1
  have hxy := key_eq_iff x y
  have h1 := fun w => Lib.hid (of_any x w)
  have h2 := fun w => Lib.hid (of_any y w)
  have h3 := fun w => Lib.hid (key_any x hx w)
  have h4 := fun w => Lib.hid (rkey_any x hx w)
  have h5 := fun w => Lib.hid (order_any x y hx hy w)
  have h6 := fun w => Lib.hid (rorder_any x y hx hy w)
  have h7 := fun w => Lib.hid (same_any x y hx hy w)
  have h8 := fun w => Lib.hid (live_any w)
  have hb : (((key x : Int) == (key y : Int)) == (cmpI (key x) (key y) == 0)) = true := hxy
  clear hx hy hxy
  generalize cmpI (key x) (key y) = c at *
  generalize hs : ((key x : Int) == (key y : Int)) = s at *
  clear hs
  go_enter Try.func5, Try.ntmps5
  go_wp2_with fail
  refine (h1 _).out.mono ?_
  rintro e w1 ⟨rfl, rfl⟩
  go_wp2_with fail
  refine (h2 _).out.mono ?_
  rintro e w1 ⟨rfl, rfl⟩
  go_wp2_with fail
  refine (h3 _).out.mono ?_
  rintro e w1 ⟨rfl, rfl⟩
  go_wp2_with fail
  refine (h4 _).out.mono ?_
  rintro e w1 ⟨rfl, rfl⟩
  go_wp2_with fail
  refine (h5 _).out.mono ?_
  rintro e w1 ⟨rfl, rfl⟩
  go_wp2_with fail
  refine (h6 _).out.mono ?_
  rintro e w1 ⟨rfl, rfl⟩
  go_wp2_with fail
  refine (h7 _).out.mono ?_
  rintro e w1 ⟨rfl, rfl⟩
  go_wp2_with fail
  refine (h6 _).out.mono ?_
  rintro e w1 ⟨rfl, rfl⟩
  go_wp2_with fail
  refine (h8 _).out.mono ?_
  rintro e w1 ⟨rfl, hd8⟩
  have D8 := Lib.hid hd8
  clear hd8
  go_wp2_with fail
  go_ret
  exact ⟨rfl, D8.out.grown⟩

set_option maxHeartbeats 400000 in
theorem clamps_walk (a0 a1 a2 n : Int) (w0 : (Lit.int .u64 a0).wf = true) (w1 : (Lit.int .u64 a1).wf = true) (w2 : (Lit.int .u64 a2).wf = true) (w : World) :
    Calls Try.prog 7 #[.int .u64 a0, .int .u64 a1, .int .u64 a2, .int .i64 n] w fun e w' => e = .returned (.bool true) ∧ Grown w w' := by
  obtain ⟨x, rfl, hx⟩ := u64_nat w0
  obtain ⟨y, rfl, hy⟩ := u64_nat w1
  obtain ⟨z, rfl, hz⟩ := u64_nat w2
  clear w0 w1 w2
  have h1 := fun w => Lib.hid (of_any x w)
  have h2 := fun w => Lib.hid (of_any y w)
  have h3 := fun w => Lib.hid (of_any z w)
  have h4 := fun w => Lib.hid (clamp_any x y z hx hy hz w)
  have h5 := fun w => Lib.hid (rclamp_any x y z hx hy hz w)
  have h6 := fun w => Lib.hid (smooth_any x y z hy w)
  have h7 := fun w => Lib.hid (rsmooth_any x y z hy w)
  have h8 := fun w => Lib.hid (steps_any x n hx w)
  have h9 := fun w => Lib.hid (rsteps_any x n hx w)
  have h10 := fun w => Lib.hid (live_any w)
  have HL1 := Lib.hid (likeB_of (rfl : bitsN (clampN x y z) = bitsN (clampN x y z)))
  clear hx hy hz
  generalize clampN x y z = cl at *
  generalize stepsI x n = st at *
  generalize (if nanB x = true then some y else smoothO x y z) = so at *
  go_enter Try.func7, Try.ntmps7
  go_wp2_with fail
  refine (h1 _).out.mono ?_
  rintro e w1 ⟨rfl, rfl⟩
  go_wp2_with fail
  refine (h2 _).out.mono ?_
  rintro e w1 ⟨rfl, rfl⟩
  go_wp2_with fail
  refine (h3 _).out.mono ?_
  rintro e w1 ⟨rfl, rfl⟩
  go_wp2_with fail
  refine (h4 _).out.mono ?_
  rintro e w1 ⟨rfl, rfl⟩
  go_wp2_with fail
  refine (h5 _).out.mono ?_
  rintro e w1 ⟨rfl, rfl⟩
  go_wp2_with fail
  refine (like_any _ _ _).mono ?_
  rw [HL1.out]
  rintro e w1 ⟨rfl, rfl⟩
  go_wp2_with fail
  refine (h6 _).out.mono ?_
  rintro e w1 ⟨r1, rfl, hr1, hd1⟩
  have R1 := Lib.hid hr1
  have D1 := Lib.hid hd1
  clear hr1 hd1
  go_wp2_with fail
  refine (h7 _).out.mono ?_
  rintro e w2 ⟨r2, rfl, hr2, hd2⟩
  have HL2 := Lib.hid (likeB_of (R1.out.same hr2))
  have D2 := Lib.hid hd2
  clear hr2 hd2
  go_wp2_with fail
  refine (like_any _ _ _).mono ?_
  rw [HL2.out]
  rintro e w3 ⟨rfl, rfl⟩
  go_wp2_with fail
  refine (h8 _).out.mono ?_
  rintro e w3 ⟨rfl, rfl⟩
  go_wp2_with fail
  refine (h9 _).out.mono ?_
  rintro e w3 ⟨rfl, rfl⟩
  go_wp2_with fail
  refine (h10 _).out.mono ?_
  rintro e w4 ⟨rfl, hd8⟩
  have D8 := Lib.hid hd8
  clear hd8
  go_wp2_with fail
  go_ret
  exact ⟨rfl, (D1.out.trans (D2.out.trans D8.out)).grown⟩
end Go.Proofs.Ytfeldgkjgfjeeaa
