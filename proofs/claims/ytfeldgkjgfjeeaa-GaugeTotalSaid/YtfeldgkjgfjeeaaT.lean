/- The walk of the law GaugeTotal: the plain facts, then one theorem a way. -/
import Derived.Test.YtfeldgkjgfjeeaaL
namespace Go.Proofs.Ytfeldgkjgfjeeaa
open Go.RowKit Fl

theorem cmpI_anti (a b : Nat) : cmpI a b = -cmpI b a := by
  unfold cmpI
  rcases Nat.lt_trichotomy a b with h | h | h
  · rw [if_pos h, if_neg (by omega), if_pos h]
  · subst h; rw [if_neg (by omega)]; omega
  · rw [if_neg (by omega), if_pos h, if_pos h]; omega
theorem cmpI_self (a : Nat) : cmpI a a = 0 := by
  unfold cmpI; rw [if_neg (by omega), if_neg (by omega)]
theorem cmpI_bd (a b : Nat) : -1 ≤ cmpI a b ∧ cmpI a b ≤ 1 := by
  unfold cmpI; split
  · omega
  · split <;> omega
theorem cmpI_neg {a b : Nat} : cmpI a b < 0 ↔ a < b := by
  unfold cmpI; split
  · omega
  · split <;> omega
theorem cmpI_pos {a b : Nat} : 0 < cmpI a b ↔ b < a := by
  unfold cmpI; split
  · omega
  · split <;> omega
theorem cmpI_zero {a b : Nat} : cmpI a b = 0 ↔ a = b := by
  unfold cmpI; split
  · omega
  · split <;> omega

theorem key_nan {x : Nat} (hx : x < 18446744073709551616) : key x = 18444492273895866369 ↔ nanB x = true := by
  unfold key
  cases h : nanB x
  · rw [if_neg (by decide)]
    unfold nanB at h
    have h' : ¬ 9218868437227405312 < rung x := by simpa using h
    unfold rung at h'
    constructor
    · intro e
      split at e
      · omega
      · omega
    · intro e; cases e
  · rw [if_pos rfl]; simp

theorem tot_nan {x y : Nat} (hx : x < 18446744073709551616) (hy : y < 18446744073709551616) (h : nanB x = true ∨ nanB y = true) : (cmpI (key x) (key y) == 0) = (nanB x && nanB y) := by
  have kx := key_nan hx
  have ky := key_nan hy
  rw [Bool.eq_iff_iff, beq_iff_eq, cmpI_zero, Bool.and_eq_true, ← kx, ← ky]
  rw [← kx, ← ky] at h
  constructor
  · intro e; rcases h with h | h
    · exact ⟨h, by omega⟩
    · exact ⟨by omega, h⟩
  · intro ⟨e, f⟩; omega

theorem sval_zero : sval 0 = 0 := by decide
theorem eq_zero {x : Nat} (hn : nanB x = false) : (Ieee.double.order x 0 == some .eq) = decide (rung x = 0) := by
  rw [order_sval hn (by decide), sval_zero, Bool.eq_iff_iff, beq_iff_eq, decide_eq_true_eq]
  have h1 : (some (compare (sval x) 0) = some Ordering.eq) ↔ sval x = 0 := by
    rw [Option.some.injEq, Int.compare_eq_eq]
  rw [h1]
  unfold sval
  constructor
  · intro h
    rcases Nat.eq_zero_or_pos (rung x) with e | e
    · exact e
    · have := val_pos e
      split at h <;> omega
  · intro h; rw [h, val_zero]; split <;> rfl

theorem tot_lt {x y : Nat} (hx : x < 18446744073709551616) (hy : y < 18446744073709551616) (nx : nanB x = false) (ny : nanB y = false) (hz : ¬ (rung x = 0 ∧ rung y = 0)) :
    ((Ieee.double.order x y == some .lt) = decide (cmpI (key x) (key y) < 0)) ∧ ((Ieee.double.order x y == some .gt) = decide (0 < cmpI (key x) (key y))) := by
  have h1 := sval_key nx ny hx hy hz
  have h2 := sval_key ny nx hy hx (fun h => hz ⟨h.2, h.1⟩)
  rw [order_sval nx ny]
  constructor
  · rw [Bool.eq_iff_iff, beq_iff_eq, decide_eq_true_eq, Option.some.injEq, Int.compare_eq_lt, cmpI_neg]; exact h1
  · rw [Bool.eq_iff_iff, beq_iff_eq, decide_eq_true_eq, Option.some.injEq, Int.compare_eq_gt, cmpI_pos]; exact h2

/-- what the walk of 'GaugeTotal' knows of its callees: c, d, e, f, g are the orders that they give -/
structure Tot (x y z : Nat) (c d e f g : Int) : Prop where
  ofx : ∀ w, Calls Try.prog 12 #[.int .u64 (x : Int)] w fun e w' => e = .returned (.float .f64 x) ∧ w = w'
  ofy : ∀ w, Calls Try.prog 12 #[.int .u64 (y : Int)] w fun e w' => e = .returned (.float .f64 y) ∧ w = w'
  ofz : ∀ w, Calls Try.prog 12 #[.int .u64 (z : Int)] w fun e w' => e = .returned (.float .f64 z) ∧ w = w'
  xy : ∀ w, Calls Try.prog 15 #[.float .f64 x, .float .f64 y] w fun e w' => e = .returned (.int .i64 c) ∧ w = w'
  yx : ∀ w, Calls Try.prog 15 #[.float .f64 y, .float .f64 x] w fun e w' => e = .returned (.int .i64 d) ∧ w = w'
  xx : ∀ w, Calls Try.prog 15 #[.float .f64 x, .float .f64 x] w fun e' w' => e' = .returned (.int .i64 e) ∧ w = w'
  yz : ∀ w, Calls Try.prog 15 #[.float .f64 y, .float .f64 z] w fun e w' => e = .returned (.int .i64 f) ∧ w = w'
  xz : ∀ w, Calls Try.prog 15 #[.float .f64 x, .float .f64 z] w fun e w' => e = .returned (.int .i64 g) ∧ w = w'

set_option maxHeartbeats 400000 in
theorem tot_ge_nx (x y z : Nat) (c d e f g : Int) (H : Tot x y z c d e f g) (w : World) (dl : -1 ≤ d) (du : d ≤ 1) (_cl : -1 ≤ c) (_cu : c ≤ 1) (e1 : (c != -d) = false) (e2 : (e != 0) = false) (hc : 0 ≤ c) (n1 : (FloatKind.f64.format.order x x != some Ordering.eq) = true) (n2 : ((c == 0) == (FloatKind.f64.format.order y y != some Ordering.eq)) = true) :
    Calls Try.prog 4 #[.int .u64 (x : Int), .int .u64 (y : Int), .int .u64 (z : Int)] w fun e w' => e = .returned (.bool true) ∧ Drawn w w' := by
  have L := fun w => Lib.hid (live_any w)
  go_enter Try.func4, Try.ntmps4
  go_wp2_with fail
  refine (H.ofx _).mono ?_
  rintro e w1 ⟨rfl, rfl⟩
  go_wp2_with fail
  refine (H.ofy _).mono ?_
  rintro e w1 ⟨rfl, rfl⟩
  go_wp2_with fail
  refine (H.ofz _).mono ?_
  rintro e w1 ⟨rfl, rfl⟩
  go_wp2_with fail
  refine (H.xy _).mono ?_
  rintro e w1 ⟨rfl, rfl⟩
  go_wp2_with fail
  refine (H.yx _).mono ?_
  rintro e w1 ⟨rfl, rfl⟩
  go_wp2_with fail
  refine (H.xx _).mono ?_
  rintro e w1 ⟨rfl, rfl⟩
  go_wp2_with fail
  refine (H.xy _).mono ?_
  rintro e w1 ⟨rfl, rfl⟩
  go_wp2_with fail
  refine (H.xy _).mono ?_
  rintro e w1 ⟨rfl, rfl⟩
  go_wp2_with fail
  refine (L _).out.mono ?_
  rintro e w2 ⟨rfl, hd⟩
  have D := Lib.hid hd
  clear hd
  go_wp2_with fail
  go_ret
  exact ⟨rfl, D.out⟩

set_option maxHeartbeats 400000 in
theorem tot_ge_ny (x y z : Nat) (c d e f g : Int) (H : Tot x y z c d e f g) (w : World) (dl : -1 ≤ d) (du : d ≤ 1) (_cl : -1 ≤ c) (_cu : c ≤ 1) (e1 : (c != -d) = false) (e2 : (e != 0) = false) (hc : 0 ≤ c) (n1 : (FloatKind.f64.format.order x x != some Ordering.eq) = false) (n2 : (FloatKind.f64.format.order y y != some Ordering.eq) = true) (n3 : (c == 0) = false) :
    Calls Try.prog 4 #[.int .u64 (x : Int), .int .u64 (y : Int), .int .u64 (z : Int)] w fun e w' => e = .returned (.bool true) ∧ Drawn w w' := by
  have L := fun w => Lib.hid (live_any w)
  go_enter Try.func4, Try.ntmps4
  go_wp2_with fail
  refine (H.ofx _).mono ?_
  rintro e w1 ⟨rfl, rfl⟩
  go_wp2_with fail
  refine (H.ofy _).mono ?_
  rintro e w1 ⟨rfl, rfl⟩
  go_wp2_with fail
  refine (H.ofz _).mono ?_
  rintro e w1 ⟨rfl, rfl⟩
  go_wp2_with fail
  refine (H.xy _).mono ?_
  rintro e w1 ⟨rfl, rfl⟩
  go_wp2_with fail
  refine (H.yx _).mono ?_
  rintro e w1 ⟨rfl, rfl⟩
  go_wp2_with fail
  refine (H.xx _).mono ?_
  rintro e w1 ⟨rfl, rfl⟩
  go_wp2_with fail
  refine (H.xy _).mono ?_
  rintro e w1 ⟨rfl, rfl⟩
  go_wp2_with fail
  refine (H.xy _).mono ?_
  rintro e w1 ⟨rfl, rfl⟩
  go_wp2_with fail
  refine (L _).out.mono ?_
  rintro e w2 ⟨rfl, hd⟩
  have D := Lib.hid hd
  clear hd
  go_wp2_with fail
  go_ret
  exact ⟨rfl, D.out⟩

set_option maxHeartbeats 400000 in
theorem tot_ge_zz (x y z : Nat) (c d e f g : Int) (H : Tot x y z c d e f g) (w : World) (dl : -1 ≤ d) (du : d ≤ 1) (_cl : -1 ≤ c) (_cu : c ≤ 1) (e1 : (c != -d) = false) (e2 : (e != 0) = false) (hc : 0 ≤ c) (n1 : (FloatKind.f64.format.order x x != some Ordering.eq) = false) (n2 : (FloatKind.f64.format.order y y != some Ordering.eq) = false) (n3 : (FloatKind.f64.format.order x 0 == some Ordering.eq) = true) (n4 : (FloatKind.f64.format.order y 0 == some Ordering.eq) = true) :
    Calls Try.prog 4 #[.int .u64 (x : Int), .int .u64 (y : Int), .int .u64 (z : Int)] w fun e w' => e = .returned (.bool true) ∧ Drawn w w' := by
  have L := fun w => Lib.hid (live_any w)
  go_enter Try.func4, Try.ntmps4
  go_wp2_with fail
  refine (H.ofx _).mono ?_
  rintro e w1 ⟨rfl, rfl⟩
  go_wp2_with fail
  refine (H.ofy _).mono ?_
  rintro e w1 ⟨rfl, rfl⟩
  go_wp2_with fail
  refine (H.ofz _).mono ?_
  rintro e w1 ⟨rfl, rfl⟩
  go_wp2_with fail
  refine (H.xy _).mono ?_
  rintro e w1 ⟨rfl, rfl⟩
  go_wp2_with fail
  refine (H.yx _).mono ?_
  rintro e w1 ⟨rfl, rfl⟩
  go_wp2_with fail
  refine (H.xx _).mono ?_
  rintro e w1 ⟨rfl, rfl⟩
  go_wp2_with fail
  refine (H.xy _).mono ?_
  rintro e w1 ⟨rfl, rfl⟩
  go_wp2_with fail
  refine (L _).out.mono ?_
  rintro e w2 ⟨rfl, hd⟩
  have D := Lib.hid hd
  clear hd
  go_wp2_with fail
  go_ret
  exact ⟨rfl, D.out⟩

set_option maxHeartbeats 400000 in
theorem tot_ge_z1 (x y z : Nat) (c d e f g : Int) (H : Tot x y z c d e f g) (w : World) (dl : -1 ≤ d) (du : d ≤ 1) (_cl : -1 ≤ c) (_cu : c ≤ 1) (e1 : (c != -d) = false) (e2 : (e != 0) = false) (hc : 0 ≤ c) (n1 : (FloatKind.f64.format.order x x != some Ordering.eq) = false) (n2 : (FloatKind.f64.format.order y y != some Ordering.eq) = false) (n3 : (FloatKind.f64.format.order x 0 == some Ordering.eq) = false) (n4 : ((FloatKind.f64.format.order x y == some Ordering.lt) == decide (c < 0)) = true) (n5 : ((FloatKind.f64.format.order x y == some Ordering.gt) == decide (0 < c)) = true) :
    Calls Try.prog 4 #[.int .u64 (x : Int), .int .u64 (y : Int), .int .u64 (z : Int)] w fun e w' => e = .returned (.bool true) ∧ Drawn w w' := by
  have L := fun w => Lib.hid (live_any w)
  go_enter Try.func4, Try.ntmps4
  go_wp2_with fail
  refine (H.ofx _).mono ?_
  rintro e w1 ⟨rfl, rfl⟩
  go_wp2_with fail
  refine (H.ofy _).mono ?_
  rintro e w1 ⟨rfl, rfl⟩
  go_wp2_with fail
  refine (H.ofz _).mono ?_
  rintro e w1 ⟨rfl, rfl⟩
  go_wp2_with fail
  refine (H.xy _).mono ?_
  rintro e w1 ⟨rfl, rfl⟩
  go_wp2_with fail
  refine (H.yx _).mono ?_
  rintro e w1 ⟨rfl, rfl⟩
  go_wp2_with fail
  refine (H.xx _).mono ?_
  rintro e w1 ⟨rfl, rfl⟩
  go_wp2_with fail
  refine (H.xy _).mono ?_
  rintro e w1 ⟨rfl, rfl⟩
  go_wp2_with fail
  refine (H.xy _).mono ?_
  rintro e w1 ⟨rfl, rfl⟩
  go_wp2_with fail
  refine (H.xy _).mono ?_
  rintro e w1 ⟨rfl, rfl⟩
  go_wp2_with fail
  refine (L _).out.mono ?_
  rintro e w2 ⟨rfl, hd⟩
  have D := Lib.hid hd
  clear hd
  go_wp2_with fail
  go_ret
  exact ⟨rfl, D.out⟩

set_option maxHeartbeats 400000 in
theorem tot_ge_z2 (x y z : Nat) (c d e f g : Int) (H : Tot x y z c d e f g) (w : World) (dl : -1 ≤ d) (du : d ≤ 1) (_cl : -1 ≤ c) (_cu : c ≤ 1) (e1 : (c != -d) = false) (e2 : (e != 0) = false) (hc : 0 ≤ c) (n1 : (FloatKind.f64.format.order x x != some Ordering.eq) = false) (n2 : (FloatKind.f64.format.order y y != some Ordering.eq) = false) (n3 : (FloatKind.f64.format.order x 0 == some Ordering.eq) = true) (n3' : (FloatKind.f64.format.order y 0 == some Ordering.eq) = false) (n4 : ((FloatKind.f64.format.order x y == some Ordering.lt) == decide (c < 0)) = true) (n5 : ((FloatKind.f64.format.order x y == some Ordering.gt) == decide (0 < c)) = true) :
    Calls Try.prog 4 #[.int .u64 (x : Int), .int .u64 (y : Int), .int .u64 (z : Int)] w fun e w' => e = .returned (.bool true) ∧ Drawn w w' := by
  have L := fun w => Lib.hid (live_any w)
  go_enter Try.func4, Try.ntmps4
  go_wp2_with fail
  refine (H.ofx _).mono ?_
  rintro e w1 ⟨rfl, rfl⟩
  go_wp2_with fail
  refine (H.ofy _).mono ?_
  rintro e w1 ⟨rfl, rfl⟩
  go_wp2_with fail
  refine (H.ofz _).mono ?_
  rintro e w1 ⟨rfl, rfl⟩
  go_wp2_with fail
  refine (H.xy _).mono ?_
  rintro e w1 ⟨rfl, rfl⟩
  go_wp2_with fail
  refine (H.yx _).mono ?_
  rintro e w1 ⟨rfl, rfl⟩
  go_wp2_with fail
  refine (H.xx _).mono ?_
  rintro e w1 ⟨rfl, rfl⟩
  go_wp2_with fail
  refine (H.xy _).mono ?_
  rintro e w1 ⟨rfl, rfl⟩
  go_wp2_with fail
  refine (H.xy _).mono ?_
  rintro e w1 ⟨rfl, rfl⟩
  go_wp2_with fail
  refine (H.xy _).mono ?_
  rintro e w1 ⟨rfl, rfl⟩
  go_wp2_with fail
  refine (L _).out.mono ?_
  rintro e w2 ⟨rfl, hd⟩
  have D := Lib.hid hd
  clear hd
  go_wp2_with fail
  go_ret
  exact ⟨rfl, D.out⟩

set_option maxHeartbeats 400000 in
theorem tot_lg_nx (x y z : Nat) (c d e f g : Int) (H : Tot x y z c d e f g) (w : World) (dl : -1 ≤ d) (du : d ≤ 1) (_cl : -1 ≤ c) (_cu : c ≤ 1) (e1 : (c != -d) = false) (e2 : (e != 0) = false) (hc : c < 0) (hf : 0 ≤ f) (n1 : (FloatKind.f64.format.order x x != some Ordering.eq) = true) (n2 : ((c == 0) == (FloatKind.f64.format.order y y != some Ordering.eq)) = true) :
    Calls Try.prog 4 #[.int .u64 (x : Int), .int .u64 (y : Int), .int .u64 (z : Int)] w fun e w' => e = .returned (.bool true) ∧ Drawn w w' := by
  have L := fun w => Lib.hid (live_any w)
  go_enter Try.func4, Try.ntmps4
  go_wp2_with fail
  refine (H.ofx _).mono ?_
  rintro e w1 ⟨rfl, rfl⟩
  go_wp2_with fail
  refine (H.ofy _).mono ?_
  rintro e w1 ⟨rfl, rfl⟩
  go_wp2_with fail
  refine (H.ofz _).mono ?_
  rintro e w1 ⟨rfl, rfl⟩
  go_wp2_with fail
  refine (H.xy _).mono ?_
  rintro e w1 ⟨rfl, rfl⟩
  go_wp2_with fail
  refine (H.yx _).mono ?_
  rintro e w1 ⟨rfl, rfl⟩
  go_wp2_with fail
  refine (H.xx _).mono ?_
  rintro e w1 ⟨rfl, rfl⟩
  go_wp2_with fail
  refine (H.xy _).mono ?_
  rintro e w1 ⟨rfl, rfl⟩
  go_wp2_with fail
  refine (H.yz _).mono ?_
  rintro e w1 ⟨rfl, rfl⟩
  go_wp2_with fail
  refine (H.xy _).mono ?_
  rintro e w1 ⟨rfl, rfl⟩
  go_wp2_with fail
  refine (L _).out.mono ?_
  rintro e w2 ⟨rfl, hd⟩
  have D := Lib.hid hd
  clear hd
  go_wp2_with fail
  go_ret
  exact ⟨rfl, D.out⟩

set_option maxHeartbeats 400000 in
theorem tot_lg_ny (x y z : Nat) (c d e f g : Int) (H : Tot x y z c d e f g) (w : World) (dl : -1 ≤ d) (du : d ≤ 1) (_cl : -1 ≤ c) (_cu : c ≤ 1) (e1 : (c != -d) = false) (e2 : (e != 0) = false) (hc : c < 0) (hf : 0 ≤ f) (n1 : (FloatKind.f64.format.order x x != some Ordering.eq) = false) (n2 : (FloatKind.f64.format.order y y != some Ordering.eq) = true) (n3 : (c == 0) = false) :
    Calls Try.prog 4 #[.int .u64 (x : Int), .int .u64 (y : Int), .int .u64 (z : Int)] w fun e w' => e = .returned (.bool true) ∧ Drawn w w' := by
  have L := fun w => Lib.hid (live_any w)
  go_enter Try.func4, Try.ntmps4
  go_wp2_with fail
  refine (H.ofx _).mono ?_
  rintro e w1 ⟨rfl, rfl⟩
  go_wp2_with fail
  refine (H.ofy _).mono ?_
  rintro e w1 ⟨rfl, rfl⟩
  go_wp2_with fail
  refine (H.ofz _).mono ?_
  rintro e w1 ⟨rfl, rfl⟩
  go_wp2_with fail
  refine (H.xy _).mono ?_
  rintro e w1 ⟨rfl, rfl⟩
  go_wp2_with fail
  refine (H.yx _).mono ?_
  rintro e w1 ⟨rfl, rfl⟩
  go_wp2_with fail
  refine (H.xx _).mono ?_
  rintro e w1 ⟨rfl, rfl⟩
  go_wp2_with fail
  refine (H.xy _).mono ?_
  rintro e w1 ⟨rfl, rfl⟩
  go_wp2_with fail
  refine (H.yz _).mono ?_
  rintro e w1 ⟨rfl, rfl⟩
  go_wp2_with fail
  refine (H.xy _).mono ?_
  rintro e w1 ⟨rfl, rfl⟩
  go_wp2_with fail
  refine (L _).out.mono ?_
  rintro e w2 ⟨rfl, hd⟩
  have D := Lib.hid hd
  clear hd
  go_wp2_with fail
  go_ret
  exact ⟨rfl, D.out⟩

set_option maxHeartbeats 400000 in
theorem tot_lg_zz (x y z : Nat) (c d e f g : Int) (H : Tot x y z c d e f g) (w : World) (dl : -1 ≤ d) (du : d ≤ 1) (_cl : -1 ≤ c) (_cu : c ≤ 1) (e1 : (c != -d) = false) (e2 : (e != 0) = false) (hc : c < 0) (hf : 0 ≤ f) (n1 : (FloatKind.f64.format.order x x != some Ordering.eq) = false) (n2 : (FloatKind.f64.format.order y y != some Ordering.eq) = false) (n3 : (FloatKind.f64.format.order x 0 == some Ordering.eq) = true) (n4 : (FloatKind.f64.format.order y 0 == some Ordering.eq) = true) :
    Calls Try.prog 4 #[.int .u64 (x : Int), .int .u64 (y : Int), .int .u64 (z : Int)] w fun e w' => e = .returned (.bool true) ∧ Drawn w w' := by
  have L := fun w => Lib.hid (live_any w)
  go_enter Try.func4, Try.ntmps4
  go_wp2_with fail
  refine (H.ofx _).mono ?_
  rintro e w1 ⟨rfl, rfl⟩
  go_wp2_with fail
  refine (H.ofy _).mono ?_
  rintro e w1 ⟨rfl, rfl⟩
  go_wp2_with fail
  refine (H.ofz _).mono ?_
  rintro e w1 ⟨rfl, rfl⟩
  go_wp2_with fail
  refine (H.xy _).mono ?_
  rintro e w1 ⟨rfl, rfl⟩
  go_wp2_with fail
  refine (H.yx _).mono ?_
  rintro e w1 ⟨rfl, rfl⟩
  go_wp2_with fail
  refine (H.xx _).mono ?_
  rintro e w1 ⟨rfl, rfl⟩
  go_wp2_with fail
  refine (H.xy _).mono ?_
  rintro e w1 ⟨rfl, rfl⟩
  go_wp2_with fail
  refine (H.yz _).mono ?_
  rintro e w1 ⟨rfl, rfl⟩
  go_wp2_with fail
  refine (L _).out.mono ?_
  rintro e w2 ⟨rfl, hd⟩
  have D := Lib.hid hd
  clear hd
  go_wp2_with fail
  go_ret
  exact ⟨rfl, D.out⟩

set_option maxHeartbeats 400000 in
theorem tot_lg_z1 (x y z : Nat) (c d e f g : Int) (H : Tot x y z c d e f g) (w : World) (dl : -1 ≤ d) (du : d ≤ 1) (_cl : -1 ≤ c) (_cu : c ≤ 1) (e1 : (c != -d) = false) (e2 : (e != 0) = false) (hc : c < 0) (hf : 0 ≤ f) (n1 : (FloatKind.f64.format.order x x != some Ordering.eq) = false) (n2 : (FloatKind.f64.format.order y y != some Ordering.eq) = false) (n3 : (FloatKind.f64.format.order x 0 == some Ordering.eq) = false) (n4 : (FloatKind.f64.format.order x y == some Ordering.lt) = true) (n5 : (FloatKind.f64.format.order x y == some Ordering.gt) = false) :
    Calls Try.prog 4 #[.int .u64 (x : Int), .int .u64 (y : Int), .int .u64 (z : Int)] w fun e w' => e = .returned (.bool true) ∧ Drawn w w' := by
  have L := fun w => Lib.hid (live_any w)
  go_enter Try.func4, Try.ntmps4
  go_wp2_with fail
  refine (H.ofx _).mono ?_
  rintro e w1 ⟨rfl, rfl⟩
  go_wp2_with fail
  refine (H.ofy _).mono ?_
  rintro e w1 ⟨rfl, rfl⟩
  go_wp2_with fail
  refine (H.ofz _).mono ?_
  rintro e w1 ⟨rfl, rfl⟩
  go_wp2_with fail
  refine (H.xy _).mono ?_
  rintro e w1 ⟨rfl, rfl⟩
  go_wp2_with fail
  refine (H.yx _).mono ?_
  rintro e w1 ⟨rfl, rfl⟩
  go_wp2_with fail
  refine (H.xx _).mono ?_
  rintro e w1 ⟨rfl, rfl⟩
  go_wp2_with fail
  refine (H.xy _).mono ?_
  rintro e w1 ⟨rfl, rfl⟩
  go_wp2_with fail
  refine (H.yz _).mono ?_
  rintro e w1 ⟨rfl, rfl⟩
  go_wp2_with fail
  refine (H.xy _).mono ?_
  rintro e w1 ⟨rfl, rfl⟩
  go_wp2_with fail
  refine (H.xy _).mono ?_
  rintro e w1 ⟨rfl, rfl⟩
  go_wp2_with fail
  refine (L _).out.mono ?_
  rintro e w2 ⟨rfl, hd⟩
  have D := Lib.hid hd
  clear hd
  go_wp2_with fail
  go_ret
  exact ⟨by show Ending.returned (.bool (!decide (0 < c))) = .returned (.bool true); rw [decide_eq_false (by omega)]; rfl, D.out⟩

set_option maxHeartbeats 400000 in
theorem tot_lg_z2 (x y z : Nat) (c d e f g : Int) (H : Tot x y z c d e f g) (w : World) (dl : -1 ≤ d) (du : d ≤ 1) (_cl : -1 ≤ c) (_cu : c ≤ 1) (e1 : (c != -d) = false) (e2 : (e != 0) = false) (hc : c < 0) (hf : 0 ≤ f) (n1 : (FloatKind.f64.format.order x x != some Ordering.eq) = false) (n2 : (FloatKind.f64.format.order y y != some Ordering.eq) = false) (n3 : (FloatKind.f64.format.order x 0 == some Ordering.eq) = true) (n3' : (FloatKind.f64.format.order y 0 == some Ordering.eq) = false) (n4 : (FloatKind.f64.format.order x y == some Ordering.lt) = true) (n5 : (FloatKind.f64.format.order x y == some Ordering.gt) = false) :
    Calls Try.prog 4 #[.int .u64 (x : Int), .int .u64 (y : Int), .int .u64 (z : Int)] w fun e w' => e = .returned (.bool true) ∧ Drawn w w' := by
  have L := fun w => Lib.hid (live_any w)
  go_enter Try.func4, Try.ntmps4
  go_wp2_with fail
  refine (H.ofx _).mono ?_
  rintro e w1 ⟨rfl, rfl⟩
  go_wp2_with fail
  refine (H.ofy _).mono ?_
  rintro e w1 ⟨rfl, rfl⟩
  go_wp2_with fail
  refine (H.ofz _).mono ?_
  rintro e w1 ⟨rfl, rfl⟩
  go_wp2_with fail
  refine (H.xy _).mono ?_
  rintro e w1 ⟨rfl, rfl⟩
  go_wp2_with fail
  refine (H.yx _).mono ?_
  rintro e w1 ⟨rfl, rfl⟩
  go_wp2_with fail
  refine (H.xx _).mono ?_
  rintro e w1 ⟨rfl, rfl⟩
  go_wp2_with fail
  refine (H.xy _).mono ?_
  rintro e w1 ⟨rfl, rfl⟩
  go_wp2_with fail
  refine (H.yz _).mono ?_
  rintro e w1 ⟨rfl, rfl⟩
  go_wp2_with fail
  refine (H.xy _).mono ?_
  rintro e w1 ⟨rfl, rfl⟩
  go_wp2_with fail
  refine (H.xy _).mono ?_
  rintro e w1 ⟨rfl, rfl⟩
  go_wp2_with fail
  refine (L _).out.mono ?_
  rintro e w2 ⟨rfl, hd⟩
  have D := Lib.hid hd
  clear hd
  go_wp2_with fail
  go_ret
  exact ⟨by show Ending.returned (.bool (!decide (0 < c))) = .returned (.bool true); rw [decide_eq_false (by omega)]; rfl, D.out⟩

set_option maxHeartbeats 400000 in
theorem tot_ll_nx (x y z : Nat) (c d e f g : Int) (H : Tot x y z c d e f g) (w : World) (dl : -1 ≤ d) (du : d ≤ 1) (_cl : -1 ≤ c) (_cu : c ≤ 1) (e1 : (c != -d) = false) (e2 : (e != 0) = false) (hc : c < 0) (hf : f < 0) (hg : g < 0) (n1 : (FloatKind.f64.format.order x x != some Ordering.eq) = true) (n2 : ((c == 0) == (FloatKind.f64.format.order y y != some Ordering.eq)) = true) :
    Calls Try.prog 4 #[.int .u64 (x : Int), .int .u64 (y : Int), .int .u64 (z : Int)] w fun e w' => e = .returned (.bool true) ∧ Drawn w w' := by
  have L := fun w => Lib.hid (live_any w)
  go_enter Try.func4, Try.ntmps4
  go_wp2_with fail
  refine (H.ofx _).mono ?_
  rintro e w1 ⟨rfl, rfl⟩
  go_wp2_with fail
  refine (H.ofy _).mono ?_
  rintro e w1 ⟨rfl, rfl⟩
  go_wp2_with fail
  refine (H.ofz _).mono ?_
  rintro e w1 ⟨rfl, rfl⟩
  go_wp2_with fail
  refine (H.xy _).mono ?_
  rintro e w1 ⟨rfl, rfl⟩
  go_wp2_with fail
  refine (H.yx _).mono ?_
  rintro e w1 ⟨rfl, rfl⟩
  go_wp2_with fail
  refine (H.xx _).mono ?_
  rintro e w1 ⟨rfl, rfl⟩
  go_wp2_with fail
  refine (H.xy _).mono ?_
  rintro e w1 ⟨rfl, rfl⟩
  go_wp2_with fail
  refine (H.yz _).mono ?_
  rintro e w1 ⟨rfl, rfl⟩
  go_wp2_with fail
  refine (H.xz _).mono ?_
  rintro e w1 ⟨rfl, rfl⟩
  go_wp2_with fail
  refine (H.xy _).mono ?_
  rintro e w1 ⟨rfl, rfl⟩
  go_wp2_with fail
  refine (L _).out.mono ?_
  rintro e w2 ⟨rfl, hd⟩
  have D := Lib.hid hd
  clear hd
  go_wp2_with fail
  go_ret
  exact ⟨rfl, D.out⟩

set_option maxHeartbeats 400000 in
theorem tot_ll_ny (x y z : Nat) (c d e f g : Int) (H : Tot x y z c d e f g) (w : World) (dl : -1 ≤ d) (du : d ≤ 1) (_cl : -1 ≤ c) (_cu : c ≤ 1) (e1 : (c != -d) = false) (e2 : (e != 0) = false) (hc : c < 0) (hf : f < 0) (hg : g < 0) (n1 : (FloatKind.f64.format.order x x != some Ordering.eq) = false) (n2 : (FloatKind.f64.format.order y y != some Ordering.eq) = true) (n3 : (c == 0) = false) :
    Calls Try.prog 4 #[.int .u64 (x : Int), .int .u64 (y : Int), .int .u64 (z : Int)] w fun e w' => e = .returned (.bool true) ∧ Drawn w w' := by
  have L := fun w => Lib.hid (live_any w)
  go_enter Try.func4, Try.ntmps4
  go_wp2_with fail
  refine (H.ofx _).mono ?_
  rintro e w1 ⟨rfl, rfl⟩
  go_wp2_with fail
  refine (H.ofy _).mono ?_
  rintro e w1 ⟨rfl, rfl⟩
  go_wp2_with fail
  refine (H.ofz _).mono ?_
  rintro e w1 ⟨rfl, rfl⟩
  go_wp2_with fail
  refine (H.xy _).mono ?_
  rintro e w1 ⟨rfl, rfl⟩
  go_wp2_with fail
  refine (H.yx _).mono ?_
  rintro e w1 ⟨rfl, rfl⟩
  go_wp2_with fail
  refine (H.xx _).mono ?_
  rintro e w1 ⟨rfl, rfl⟩
  go_wp2_with fail
  refine (H.xy _).mono ?_
  rintro e w1 ⟨rfl, rfl⟩
  go_wp2_with fail
  refine (H.yz _).mono ?_
  rintro e w1 ⟨rfl, rfl⟩
  go_wp2_with fail
  refine (H.xz _).mono ?_
  rintro e w1 ⟨rfl, rfl⟩
  go_wp2_with fail
  refine (H.xy _).mono ?_
  rintro e w1 ⟨rfl, rfl⟩
  go_wp2_with fail
  refine (L _).out.mono ?_
  rintro e w2 ⟨rfl, hd⟩
  have D := Lib.hid hd
  clear hd
  go_wp2_with fail
  go_ret
  exact ⟨rfl, D.out⟩

set_option maxHeartbeats 400000 in
theorem tot_ll_zz (x y z : Nat) (c d e f g : Int) (H : Tot x y z c d e f g) (w : World) (dl : -1 ≤ d) (du : d ≤ 1) (_cl : -1 ≤ c) (_cu : c ≤ 1) (e1 : (c != -d) = false) (e2 : (e != 0) = false) (hc : c < 0) (hf : f < 0) (hg : g < 0) (n1 : (FloatKind.f64.format.order x x != some Ordering.eq) = false) (n2 : (FloatKind.f64.format.order y y != some Ordering.eq) = false) (n3 : (FloatKind.f64.format.order x 0 == some Ordering.eq) = true) (n4 : (FloatKind.f64.format.order y 0 == some Ordering.eq) = true) :
    Calls Try.prog 4 #[.int .u64 (x : Int), .int .u64 (y : Int), .int .u64 (z : Int)] w fun e w' => e = .returned (.bool true) ∧ Drawn w w' := by
  have L := fun w => Lib.hid (live_any w)
  go_enter Try.func4, Try.ntmps4
  go_wp2_with fail
  refine (H.ofx _).mono ?_
  rintro e w1 ⟨rfl, rfl⟩
  go_wp2_with fail
  refine (H.ofy _).mono ?_
  rintro e w1 ⟨rfl, rfl⟩
  go_wp2_with fail
  refine (H.ofz _).mono ?_
  rintro e w1 ⟨rfl, rfl⟩
  go_wp2_with fail
  refine (H.xy _).mono ?_
  rintro e w1 ⟨rfl, rfl⟩
  go_wp2_with fail
  refine (H.yx _).mono ?_
  rintro e w1 ⟨rfl, rfl⟩
  go_wp2_with fail
  refine (H.xx _).mono ?_
  rintro e w1 ⟨rfl, rfl⟩
  go_wp2_with fail
  refine (H.xy _).mono ?_
  rintro e w1 ⟨rfl, rfl⟩
  go_wp2_with fail
  refine (H.yz _).mono ?_
  rintro e w1 ⟨rfl, rfl⟩
  go_wp2_with fail
  refine (H.xz _).mono ?_
  rintro e w1 ⟨rfl, rfl⟩
  go_wp2_with fail
  refine (L _).out.mono ?_
  rintro e w2 ⟨rfl, hd⟩
  have D := Lib.hid hd
  clear hd
  go_wp2_with fail
  go_ret
  exact ⟨rfl, D.out⟩

set_option maxHeartbeats 400000 in
theorem tot_ll_z1 (x y z : Nat) (c d e f g : Int) (H : Tot x y z c d e f g) (w : World) (dl : -1 ≤ d) (du : d ≤ 1) (_cl : -1 ≤ c) (_cu : c ≤ 1) (e1 : (c != -d) = false) (e2 : (e != 0) = false) (hc : c < 0) (hf : f < 0) (hg : g < 0) (n1 : (FloatKind.f64.format.order x x != some Ordering.eq) = false) (n2 : (FloatKind.f64.format.order y y != some Ordering.eq) = false) (n3 : (FloatKind.f64.format.order x 0 == some Ordering.eq) = false) (n4 : (FloatKind.f64.format.order x y == some Ordering.lt) = true) (n5 : (FloatKind.f64.format.order x y == some Ordering.gt) = false) :
    Calls Try.prog 4 #[.int .u64 (x : Int), .int .u64 (y : Int), .int .u64 (z : Int)] w fun e w' => e = .returned (.bool true) ∧ Drawn w w' := by
  have L := fun w => Lib.hid (live_any w)
  go_enter Try.func4, Try.ntmps4
  go_wp2_with fail
  refine (H.ofx _).mono ?_
  rintro e w1 ⟨rfl, rfl⟩
  go_wp2_with fail
  refine (H.ofy _).mono ?_
  rintro e w1 ⟨rfl, rfl⟩
  go_wp2_with fail
  refine (H.ofz _).mono ?_
  rintro e w1 ⟨rfl, rfl⟩
  go_wp2_with fail
  refine (H.xy _).mono ?_
  rintro e w1 ⟨rfl, rfl⟩
  go_wp2_with fail
  refine (H.yx _).mono ?_
  rintro e w1 ⟨rfl, rfl⟩
  go_wp2_with fail
  refine (H.xx _).mono ?_
  rintro e w1 ⟨rfl, rfl⟩
  go_wp2_with fail
  refine (H.xy _).mono ?_
  rintro e w1 ⟨rfl, rfl⟩
  go_wp2_with fail
  refine (H.yz _).mono ?_
  rintro e w1 ⟨rfl, rfl⟩
  go_wp2_with fail
  refine (H.xz _).mono ?_
  rintro e w1 ⟨rfl, rfl⟩
  go_wp2_with fail
  refine (H.xy _).mono ?_
  rintro e w1 ⟨rfl, rfl⟩
  go_wp2_with fail
  refine (H.xy _).mono ?_
  rintro e w1 ⟨rfl, rfl⟩
  go_wp2_with fail
  refine (L _).out.mono ?_
  rintro e w2 ⟨rfl, hd⟩
  have D := Lib.hid hd
  clear hd
  go_wp2_with fail
  go_ret
  exact ⟨by show Ending.returned (.bool (!decide (0 < c))) = .returned (.bool true); rw [decide_eq_false (by omega)]; rfl, D.out⟩

set_option maxHeartbeats 400000 in
theorem tot_ll_z2 (x y z : Nat) (c d e f g : Int) (H : Tot x y z c d e f g) (w : World) (dl : -1 ≤ d) (du : d ≤ 1) (_cl : -1 ≤ c) (_cu : c ≤ 1) (e1 : (c != -d) = false) (e2 : (e != 0) = false) (hc : c < 0) (hf : f < 0) (hg : g < 0) (n1 : (FloatKind.f64.format.order x x != some Ordering.eq) = false) (n2 : (FloatKind.f64.format.order y y != some Ordering.eq) = false) (n3 : (FloatKind.f64.format.order x 0 == some Ordering.eq) = true) (n3' : (FloatKind.f64.format.order y 0 == some Ordering.eq) = false) (n4 : (FloatKind.f64.format.order x y == some Ordering.lt) = true) (n5 : (FloatKind.f64.format.order x y == some Ordering.gt) = false) :
    Calls Try.prog 4 #[.int .u64 (x : Int), .int .u64 (y : Int), .int .u64 (z : Int)] w fun e w' => e = .returned (.bool true) ∧ Drawn w w' := by
  have L := fun w => Lib.hid (live_any w)
  go_enter Try.func4, Try.ntmps4
  go_wp2_with fail
  refine (H.ofx _).mono ?_
  rintro e w1 ⟨rfl, rfl⟩
  go_wp2_with fail
  refine (H.ofy _).mono ?_
  rintro e w1 ⟨rfl, rfl⟩
  go_wp2_with fail
  refine (H.ofz _).mono ?_
  rintro e w1 ⟨rfl, rfl⟩
  go_wp2_with fail
  refine (H.xy _).mono ?_
  rintro e w1 ⟨rfl, rfl⟩
  go_wp2_with fail
  refine (H.yx _).mono ?_
  rintro e w1 ⟨rfl, rfl⟩
  go_wp2_with fail
  refine (H.xx _).mono ?_
  rintro e w1 ⟨rfl, rfl⟩
  go_wp2_with fail
  refine (H.xy _).mono ?_
  rintro e w1 ⟨rfl, rfl⟩
  go_wp2_with fail
  refine (H.yz _).mono ?_
  rintro e w1 ⟨rfl, rfl⟩
  go_wp2_with fail
  refine (H.xz _).mono ?_
  rintro e w1 ⟨rfl, rfl⟩
  go_wp2_with fail
  refine (H.xy _).mono ?_
  rintro e w1 ⟨rfl, rfl⟩
  go_wp2_with fail
  refine (H.xy _).mono ?_
  rintro e w1 ⟨rfl, rfl⟩
  go_wp2_with fail
  refine (L _).out.mono ?_
  rintro e w2 ⟨rfl, hd⟩
  have D := Lib.hid hd
  clear hd
  go_wp2_with fail
  go_ret
  exact ⟨by show Ending.returned (.bool (!decide (0 < c))) = .returned (.bool true); rw [decide_eq_false (by omega)]; rfl, D.out⟩


theorem total_walk (a0 a1 a2 : Int) (w0 : (Lit.int .u64 a0).wf = true) (w1 : (Lit.int .u64 a1).wf = true) (w2 : (Lit.int .u64 a2).wf = true) (w : World) :
    Calls Try.prog 4 #[.int .u64 a0, .int .u64 a1, .int .u64 a2] w fun e w' => e = .returned (.bool true) ∧ Grown w w' := by
  obtain ⟨x, rfl, hx⟩ := u64_nat w0
  obtain ⟨y, rfl, hy⟩ := u64_nat w1
  obtain ⟨z, rfl, hz⟩ := u64_nat w2
  suffices h : Calls Try.prog 4 #[.int .u64 (x : Int), .int .u64 (y : Int), .int .u64 (z : Int)] w fun e w' => e = .returned (.bool true) ∧ Drawn w w' from
    h.mono fun _ _ ⟨he, hd⟩ => ⟨he, hd.grown⟩
  have H : Tot x y z (cmpI (key x) (key y)) (cmpI (key y) (key x)) (cmpI (key x) (key x)) (cmpI (key y) (key z)) (cmpI (key x) (key z)) :=
    ⟨fun w => of_any x w, fun w => of_any y w, fun w => of_any z w, fun w => order_any x y hx hy w, fun w => order_any y x hy hx w, fun w => order_any x x hx hx w, fun w => order_any y z hy hz w, fun w => order_any x z hx hz w⟩
  have bd := cmpI_bd (key y) (key x)
  have bc := cmpI_bd (key x) (key y)
  have an := cmpI_anti (key x) (key y)
  have se := cmpI_self (key x)
  have e1 : (cmpI (key x) (key y) != -cmpI (key y) (key x)) = false := by rw [bne_eq_false_iff_eq]; exact an
  have e2 : (cmpI (key x) (key x) != 0) = false := by rw [bne_eq_false_iff_eq]; exact se
  have tr : cmpI (key x) (key y) < 0 → cmpI (key y) (key z) < 0 → cmpI (key x) (key z) < 0 := by
    rw [cmpI_neg, cmpI_neg, cmpI_neg]; omega
  have nx := neq_self x
  have ny := neq_self y
  have tn := tot_nan hx hy
  have ez := fun h => eq_zero (x := x) h
  have fz := fun h => eq_zero (x := y) h
  have tl := fun h1 h2 h3 => tot_lt (x := x) (y := y) hx hy h1 h2 h3
  generalize hcc : cmpI (key x) (key y) = c at *
  generalize cmpI (key y) (key x) = d at *
  generalize cmpI (key x) (key x) = e at *
  generalize cmpI (key y) (key z) = f at *
  generalize cmpI (key x) (key z) = g at *
  cases hnx : nanB x
  · cases hny : nanB y
    · rw [hnx] at nx
      rw [hny] at ny
      have ez' := ez hnx
      have fz' := fz hny
      by_cases r1 : rung x = 0
      · rw [decide_eq_true r1] at ez'
        by_cases r2 : rung y = 0
        · rw [decide_eq_true r2] at fz'
          by_cases hc : 0 ≤ c
          · exact tot_ge_zz x y z c d e f g H w bd.1 bd.2 bc.1 bc.2 e1 e2 hc nx ny ez' fz'
          · by_cases hf : 0 ≤ f
            · exact tot_lg_zz x y z c d e f g H w bd.1 bd.2 bc.1 bc.2 e1 e2 (by omega) hf nx ny ez' fz'
            · exact tot_ll_zz x y z c d e f g H w bd.1 bd.2 bc.1 bc.2 e1 e2 (by omega) (by omega) (tr (by omega) (by omega)) nx ny ez' fz'
        · rw [decide_eq_false r2] at fz'
          obtain ⟨t1, t2⟩ := tl hnx hny (fun h => r2 h.2)
          by_cases hc : 0 ≤ c
          · exact tot_ge_z2 x y z c d e f g H w bd.1 bd.2 bc.1 bc.2 e1 e2 hc nx ny ez' fz' (by rw [beq_iff_eq]; exact t1) (by rw [beq_iff_eq]; exact t2)
          · by_cases hf : 0 ≤ f
            · exact tot_lg_z2 x y z c d e f g H w bd.1 bd.2 bc.1 bc.2 e1 e2 (by omega) hf nx ny ez' fz' (t1.trans (decide_eq_true (by omega))) (t2.trans (decide_eq_false (by omega)))
            · exact tot_ll_z2 x y z c d e f g H w bd.1 bd.2 bc.1 bc.2 e1 e2 (by omega) (by omega) (tr (by omega) (by omega)) nx ny ez' fz' (t1.trans (decide_eq_true (by omega))) (t2.trans (decide_eq_false (by omega)))
      · rw [decide_eq_false r1] at ez'
        obtain ⟨t1, t2⟩ := tl hnx hny (fun h => r1 h.1)
        by_cases hc : 0 ≤ c
        · exact tot_ge_z1 x y z c d e f g H w bd.1 bd.2 bc.1 bc.2 e1 e2 hc nx ny ez' (by rw [beq_iff_eq]; exact t1) (by rw [beq_iff_eq]; exact t2)
        · by_cases hf : 0 ≤ f
          · exact tot_lg_z1 x y z c d e f g H w bd.1 bd.2 bc.1 bc.2 e1 e2 (by omega) hf nx ny ez' (t1.trans (decide_eq_true (by omega))) (t2.trans (decide_eq_false (by omega)))
          · exact tot_ll_z1 x y z c d e f g H w bd.1 bd.2 bc.1 bc.2 e1 e2 (by omega) (by omega) (tr (by omega) (by omega)) nx ny ez' (t1.trans (decide_eq_true (by omega))) (t2.trans (decide_eq_false (by omega)))
    · have q := tn (.inr hny)
      rw [hnx, hny] at q
      rw [hnx] at nx
      rw [hny] at ny
      by_cases hc : 0 ≤ c
      · exact tot_ge_ny x y z c d e f g H w bd.1 bd.2 bc.1 bc.2 e1 e2 hc nx ny q
      · by_cases hf : 0 ≤ f
        · exact tot_lg_ny x y z c d e f g H w bd.1 bd.2 bc.1 bc.2 e1 e2 (by omega) hf nx ny q
        · exact tot_ll_ny x y z c d e f g H w bd.1 bd.2 bc.1 bc.2 e1 e2 (by omega) (by omega) (tr (by omega) (by omega)) nx ny q
  · have q := tn (.inl hnx)
    rw [hnx, Bool.true_and] at q
    rw [hnx] at nx
    have q' : ((c == 0) == (FloatKind.f64.format.order y y != some Ordering.eq)) = true := by
      rw [beq_iff_eq, q]; exact ny.symm
    by_cases hc : 0 ≤ c
    · exact tot_ge_nx x y z c d e f g H w bd.1 bd.2 bc.1 bc.2 e1 e2 hc nx q'
    · by_cases hf : 0 ≤ f
      · exact tot_lg_nx x y z c d e f g H w bd.1 bd.2 bc.1 bc.2 e1 e2 (by omega) hf nx q'
      · exact tot_ll_nx x y z c d e f g H w bd.1 bd.2 bc.1 bc.2 e1 e2 (by omega) (by omega) (tr (by omega) (by omega)) nx q'
end Go.Proofs.Ytfeldgkjgfjeeaa
