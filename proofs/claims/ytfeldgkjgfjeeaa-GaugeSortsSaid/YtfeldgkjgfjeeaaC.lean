/- Contracts, continued: clamp, smoothing, steps, 'live'. -/
import Derived.Test.YtfeldgkjgfjeeaaB
import Derived.Test.YtfeldgkjgfjeeaaFm
namespace Go.Proofs.Ytfeldgkjgfjeeaa
open Go.RowKit Fl

def clampN (x l h : Nat) : Nat := if nanB x = true ∨ cmpI (key x) (key l) < 0 then l else if cmpI (key x) (key h) > 0 then h else x

theorem cmpI_lt {a b : Nat} (h : cmpI a b < 0) : cmpI a b = -1 := by unfold cmpI at *; split at h <;> rename_i c <;> simp_all; split at h <;> simp_all
theorem cmpI_gt {a b : Nat} (h : 0 < cmpI a b) : cmpI a b = 1 := by unfold cmpI at *; split at h <;> rename_i c <;> simp_all; split at h <;> simp_all

set_option maxHeartbeats 400000 in
theorem clamp_any (x l h : Nat) (hx : x < 18446744073709551616) (hl : l < 18446744073709551616) (hh : h < 18446744073709551616) (w : World) :
    Calls Try.prog 23 #[.float .f64 x, .float .f64 l, .float .f64 h] w fun e w' => e = .returned (.float .f64 (clampN x l h)) ∧ w = w' := by
  have hn := neq_self x
  have H1 := Lib.hid (order_any x l hx hl w)
  have H2 := Lib.hid (order_any x h hx hh w)
  clear hx hl hh
  cases hb : nanB x
  · rw [hb] at hn
    have h1 : (FloatKind.f64.format.order x x != some Ordering.eq) = false := hn
    by_cases c1 : cmpI (key x) (key l) < 0
    · have H := Lib.hid (show clampN x l h = l from by unfold clampN; rw [if_pos (.inr c1)])
      clear hn hb
      generalize cmpI (key x) (key l) = c at *
      go_enter Try.func23, Try.ntmps23
      go_wp2_with fail
      refine (H1.out).mono ?_
      rintro e w' ⟨rfl, rfl⟩
      go_wp2_with fail
      go_ret
      exact ⟨by rw [H.out]; rfl, rfl⟩
    · by_cases c2 : 0 < cmpI (key x) (key h)
      · have H := Lib.hid (show clampN x l h = h from by unfold clampN; rw [if_neg (by rw [hb]; simp; omega), if_pos c2])
        clear hn hb
        generalize cmpI (key x) (key l) = c at *
        generalize cmpI (key x) (key h) = d at *
        go_enter Try.func23, Try.ntmps23
        go_wp2_with fail
        refine (H1.out).mono ?_
        rintro e w' ⟨rfl, rfl⟩
        go_wp2_with fail
        refine (H2.out).mono ?_
        rintro e w' ⟨rfl, rfl⟩
        go_wp2_with fail
        go_ret
        exact ⟨by rw [H.out]; rfl, rfl⟩
      · have H := Lib.hid (show clampN x l h = x from by unfold clampN; rw [if_neg (by rw [hb]; simp; omega), if_neg c2])
        clear hn hb
        generalize cmpI (key x) (key l) = c at *
        generalize cmpI (key x) (key h) = d at *
        go_enter Try.func23, Try.ntmps23
        go_wp2_with fail
        refine (H1.out).mono ?_
        rintro e w' ⟨rfl, rfl⟩
        go_wp2_with fail
        refine (H2.out).mono ?_
        rintro e w' ⟨rfl, rfl⟩
        go_wp2_with fail
        go_ret
        exact ⟨by rw [H.out]; rfl, rfl⟩
  · rw [hb] at hn
    have h1 : (FloatKind.f64.format.order x x != some Ordering.eq) = true := hn
    have H := Lib.hid (show clampN x l h = l from by unfold clampN; rw [if_pos (.inl hb)])
    clear hn hb
    go_enter Try.func23, Try.ntmps23
    go_wp2_with fail
    go_ret
    exact ⟨by rw [H.out]; rfl, rfl⟩

set_option maxHeartbeats 400000 in
theorem rclamp_any (x l h : Nat) (hx : x < 18446744073709551616) (hl : l < 18446744073709551616) (hh : h < 18446744073709551616) (w : World) :
    Calls Try.prog 24 #[.float .f64 x, .float .f64 l, .float .f64 h] w fun e w' => e = .returned (.float .f64 (clampN x l h)) ∧ w = w' := by
  have hn := neq_self x
  have H1 := Lib.hid (rorder_any x l hx hl w)
  have H2 := Lib.hid (rorder_any x h hx hh w)
  clear hx hl hh
  cases hb : nanB x
  · rw [hb] at hn
    have h1 : (FloatKind.f64.format.order x x != some Ordering.eq) = false := hn
    by_cases c1 : cmpI (key x) (key l) < 0
    · have H := Lib.hid (show clampN x l h = l from by unfold clampN; rw [if_pos (.inr c1)])
      have h3 : (cmpI (key x) (key l) == -1) = true := by rw [beq_iff_eq]; exact cmpI_lt c1
      clear hn hb c1
      generalize cmpI (key x) (key l) = c at *
      go_enter Try.func24, Try.ntmps24
      go_wp2_with fail
      refine (H1.out).mono ?_
      rintro e w' ⟨rfl, rfl⟩
      go_wp2_with fail
      go_ret
      exact ⟨by rw [H.out]; rfl, rfl⟩
    · have h3 : (cmpI (key x) (key l) == -1) = false := by rw [beq_eq_false_iff_ne]; omega
      by_cases c2 : 0 < cmpI (key x) (key h)
      · have H := Lib.hid (show clampN x l h = h from by unfold clampN; rw [if_neg (by rw [hb]; simp; omega), if_pos c2])
        have h4 : (cmpI (key x) (key h) == 1) = true := by rw [beq_iff_eq]; exact cmpI_gt c2
        clear hn hb c1 c2
        generalize cmpI (key x) (key l) = c at *
        generalize cmpI (key x) (key h) = d at *
        go_enter Try.func24, Try.ntmps24
        go_wp2_with fail
        refine (H1.out).mono ?_
        rintro e w' ⟨rfl, rfl⟩
        go_wp2_with fail
        refine (H2.out).mono ?_
        rintro e w' ⟨rfl, rfl⟩
        go_wp2_with fail
        go_ret
        exact ⟨by rw [H.out]; rfl, rfl⟩
      · have H := Lib.hid (show clampN x l h = x from by unfold clampN; rw [if_neg (by rw [hb]; simp; omega), if_neg c2])
        have h4 : (cmpI (key x) (key h) == 1) = false := by rw [beq_eq_false_iff_ne]; omega
        clear hn hb c1 c2
        generalize cmpI (key x) (key l) = c at *
        generalize cmpI (key x) (key h) = d at *
        go_enter Try.func24, Try.ntmps24
        go_wp2_with fail
        refine (H1.out).mono ?_
        rintro e w' ⟨rfl, rfl⟩
        go_wp2_with fail
        refine (H2.out).mono ?_
        rintro e w' ⟨rfl, rfl⟩
        go_wp2_with fail
        go_ret
        exact ⟨by rw [H.out]; rfl, rfl⟩
  · rw [hb] at hn
    have h1 : (FloatKind.f64.format.order x x != some Ordering.eq) = true := hn
    have H := Lib.hid (show clampN x l h = l from by unfold clampN; rw [if_pos (.inl hb)])
    clear hn hb
    go_enter Try.func24, Try.ntmps24
    go_wp2_with fail
    go_ret
    exact ⟨by rw [H.out]; rfl, rfl⟩

theorem Drawn.refl (w : World) : Drawn w w := ⟨0, rfl⟩
theorem Drawn.trans {a b c : World} (h : Drawn a b) (k : Drawn b c) : Drawn a c := by
  obtain ⟨n, rfl⟩ := h; obtain ⟨m, rfl⟩ := k; exact ⟨n + m, by simp⟩
theorem Drawn.below {a b : World} (h : Drawn a b) : Below a.heap.size a b := by
  obtain ⟨n, rfl⟩ := h; exact below_drewN (Below.refl _ _) n

set_option maxHeartbeats 400000 in
theorem smooth_any (was x part : Nat) (hx : x < 18446744073709551616) (w : World) :
    Calls Try.prog 25 #[.float .f64 was, .float .f64 x, .float .f64 part] w (SomeFloat (if nanB was = true then some x else smoothO was x part) w) := by
  have hn := neq_self was
  cases hb : nanB was
  · rw [hb] at hn
    have h1 : (FloatKind.f64.format.order was was != some Ordering.eq) = false := hn
    obtain ⟨r1, n1, run1, f1⟩ := run_float_any .sub 24 x was w (by simp)
    obtain ⟨r2, n2, run2, f2⟩ := run_float_any .mul 24 r1 part (w.drewN n1) (by simp)
    obtain ⟨r3, n3, run3, f3⟩ := run_float_any .add 24 was r2 ((w.drewN n1).drewN n2) (by simp)
    rw [f1.left] at f2
    rw [f2.right] at f3
    have F := Lib.hid f3
    clear f1 f2 f3 hn hb
    simp only [World.drewN_drewN] at run2 run3
    go_enter Try.func25, Try.ntmps25
    go_wp2_with fail
    go_ret
    refine ⟨r3, rfl, F.out, _, rfl⟩
  · rw [hb] at hn
    have h1 : (FloatKind.f64.format.order was was != some Ordering.eq) = true := hn
    have F := Lib.hid (show FR (some x) x from ⟨.inl rfl, hx⟩)
    clear hn hb hx
    go_enter Try.func25, Try.ntmps25
    go_wp2_with fail
    go_ret
    refine ⟨x, rfl, F.out, 0, rfl⟩

set_option maxHeartbeats 400000 in
theorem rsmooth_any (was x part : Nat) (hx : x < 18446744073709551616) (w : World) :
    Calls Try.prog 26 #[.float .f64 was, .float .f64 x, .float .f64 part] w (SomeFloat (if nanB was = true then some x else smoothO was x part) w) := by
  have hn := neq_self was
  cases hb : nanB was
  · rw [hb] at hn
    have h1 : (FloatKind.f64.format.order was was != some Ordering.eq) = false := hn
    obtain ⟨r1, n1, run1, f1⟩ := run_float_any .sub 24 x was w (by simp)
    obtain ⟨r2, n2, run2, f2⟩ := run_float_any .mul 24 r1 part (w.drewN n1) (by simp)
    obtain ⟨r3, n3, run3, f3⟩ := run_float_any .add 24 was r2 ((w.drewN n1).drewN n2) (by simp)
    rw [f1.left] at f2
    rw [f2.right] at f3
    have F := Lib.hid f3
    clear f1 f2 f3 hn hb
    simp only [World.drewN_drewN] at run2 run3
    go_enter Try.func26, Try.ntmps26
    go_wp2_with fail
    go_ret
    refine ⟨r3, rfl, F.out, _, rfl⟩
  · rw [hb] at hn
    have h1 : (FloatKind.f64.format.order was was != some Ordering.eq) = true := hn
    have F := Lib.hid (show FR (some x) x from ⟨.inl rfl, hx⟩)
    clear hn hb hx
    go_enter Try.func26, Try.ntmps26
    go_wp2_with fail
    go_ret
    refine ⟨x, rfl, F.out, 0, rfl⟩
end Go.Proofs.Ytfeldgkjgfjeeaa
