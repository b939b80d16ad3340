/- Contracts, continued: steps, 'live'. -/
import Derived.Test.YtfeldgkjgfjeeaaC
namespace Go.Proofs.Ytfeldgkjgfjeeaa
open Go.RowKit Fl

def SomeInt (P : Int → Prop) (w : World) (e : Ending) (w' : World) : Prop := ∃ k, e = .returned (.int .i64 k) ∧ P k ∧ Drawn w w'
def gtB (x y : Nat) : Bool := Ieee.double.order x y == some .gt
def geB (x y : Nat) : Bool := Ieee.double.order x y == some .gt || Ieee.double.order x y == some .eq
def leB (x y : Nat) : Bool := Ieee.double.order x y == some .lt || Ieee.double.order x y == some .eq
/-- what 'Steps' gives -/
def stepsI (x : Nat) (n : Int) : Int :=
  if n < 1 ∨ gtB x 0 = false then 0 else if geB x 4607182418800017408 = true then n else
  match floatBits .mul .f64 x (floatOfInt .f64 n) with
  | none => 0
  | some y => if geB y 4890909195324358656 = true then n else match floatToIntVal .f64 y .i64 with | some k => if k < n then k else n | none => 0

theorem le_of_ngt {x : Nat} (hn : nanB x = false) (h : gtB x 0 = false) : leB x 0 = true := by
  unfold gtB at h; unfold leB
  rw [order_sval hn (by decide)] at h ⊢
  cases hc : compare (sval x) (sval 0) <;> rw [hc] at h <;> simp_all
theorem nle_of_gt {x : Nat} (h : gtB x 0 = true) : leB x 0 = false := by
  unfold gtB at h; unfold leB
  rw [beq_iff_eq] at h
  rw [h]; rfl
theorem nan_ngt {x : Nat} (h : nanB x = true) : gtB x 0 = false := by
  unfold gtB; rw [order_nan_left 0 h]; rfl
theorem nan_of_gt {x : Nat} (h : gtB x 0 = true) : nanB x = false := by
  cases hn : nanB x
  · rfl
  · rw [nan_ngt hn] at h; cases h

set_option maxHeartbeats 400000 in
theorem steps_any (x : Nat) (n : Int) (hx : x < 18446744073709551616) (w : World) :
    Calls Try.prog 27 #[.float .f64 x, .int .i64 n] w fun e w' => e = .returned (.int .i64 (stepsI x n)) ∧ w = w' := by
  by_cases h0 : n < 1
  · have H := Lib.hid (show stepsI x n = 0 from by unfold stepsI; rw [if_pos (.inl h0)])
    go_enter Try.func27, Try.ntmps27
    go_wp2_with fail
    go_ret
    exact ⟨ret_int H.out.symm, rfl⟩
  · cases hg : gtB x 0
    · have H := Lib.hid (show stepsI x n = 0 from by unfold stepsI; rw [if_pos (.inr hg)])
      have h1 : (FloatKind.f64.format.order x 0 == some Ordering.gt) = false := hg
      clear hg
      go_enter Try.func27, Try.ntmps27
      go_wp2_with fail
      go_ret
      exact ⟨ret_int H.out.symm, rfl⟩
    · have h1 : (FloatKind.f64.format.order x 0 == some Ordering.gt) = true := hg
      cases hge : geB x 4607182418800017408
      · have h2 : (FloatKind.f64.format.order x 4607182418800017408 == some Ordering.gt || FloatKind.f64.format.order x 4607182418800017408 == some Ordering.eq) = false := hge
        obtain ⟨mx, px⟩ := mag_of_pos hx h1
        have lx := lt_of_ngeq mx (show Mag 4607182418800017408 from by unfold Mag; omega) h2
        obtain ⟨y, hy, my⟩ := mul_mag mx px (by omega) (flt_mag (n := n) (by omega))
        have hrun : ∀ w, (binOp .mul 24 (.float .f64 x) (.float .f64 (floatOfInt .f64 n))).run Try.prog w = .ok (.float .f64 y) w := fun w => run_float_arith w .mul 24 .f64 x _ y hy
        cases hyb : geB y 4890909195324358656
        · have h3 : (FloatKind.f64.format.order y 4890909195324358656 == some Ordering.gt || FloatKind.f64.format.order y 4890909195324358656 == some Ordering.eq) = false := hyb
          obtain ⟨k, hk⟩ := toInt_ok my (lt_of_ngeq my (show Mag 4890909195324358656 from by unfold Mag; omega) h3)
          have hconv : ∀ w, (convert 24 3 (.float .f64 y)).run Try.prog w = .ok (.int .i64 k) w := fun w => run_convert_float_int w 24 3 .f64 .i64 y k (by kernel_rfl) Try.underlying3 hk
          by_cases hkn : k < n
          · have H := Lib.hid (show stepsI x n = k from by
              unfold stepsI; rw [if_neg (by rw [hg]; simp; omega), if_neg (by rw [hge]; simp), hy]
              dsimp only
              rw [if_neg (by rw [hyb]; simp), hk]; dsimp only; rw [if_pos hkn])
            clear hg hge hyb hy hk mx my lx px hx
            go_enter Try.func27, Try.ntmps27
            go_wp2_with fail
            go_ret
            exact ⟨ret_int H.out.symm, rfl⟩
          · have H := Lib.hid (show stepsI x n = n from by
              unfold stepsI; rw [if_neg (by rw [hg]; simp; omega), if_neg (by rw [hge]; simp), hy]
              dsimp only
              rw [if_neg (by rw [hyb]; simp), hk]; dsimp only; rw [if_neg hkn])
            clear hg hge hyb hy hk mx my lx px hx
            go_enter Try.func27, Try.ntmps27
            go_wp2_with fail
            all_goals go_ret
            all_goals first | exact ⟨ret_int H.out.symm, rfl⟩ | exact ⟨ret_int (show k = stepsI x n from by rw [H.out]; omega), rfl⟩
        · have h3 : (FloatKind.f64.format.order y 4890909195324358656 == some Ordering.gt || FloatKind.f64.format.order y 4890909195324358656 == some Ordering.eq) = true := hyb
          have H := Lib.hid (show stepsI x n = n from by
            unfold stepsI; rw [if_neg (by rw [hg]; simp; omega), if_neg (by rw [hge]; simp), hy]
            dsimp only
            rw [if_pos hyb])
          clear hg hge hyb hy mx my lx px hx
          go_enter Try.func27, Try.ntmps27
          go_wp2_with fail
          go_ret
          exact ⟨ret_int H.out.symm, rfl⟩
      · have h2 : (FloatKind.f64.format.order x 4607182418800017408 == some Ordering.gt || FloatKind.f64.format.order x 4607182418800017408 == some Ordering.eq) = true := hge
        have H := Lib.hid (show stepsI x n = n from by unfold stepsI; rw [if_neg (by rw [hg]; simp; omega), if_pos hge])
        clear hg hge hx
        go_enter Try.func27, Try.ntmps27
        go_wp2_with fail
        go_ret
        exact ⟨ret_int H.out.symm, rfl⟩

set_option maxHeartbeats 400000 in
theorem rsteps_any (x : Nat) (n : Int) (hx : x < 18446744073709551616) (w : World) :
    Calls Try.prog 28 #[.float .f64 x, .int .i64 n] w fun e w' => e = .returned (.int .i64 (stepsI x n)) ∧ w = w' := by
  have hns := neq_self x
  by_cases h0 : n < 1
  · have H := Lib.hid (show stepsI x n = 0 from by unfold stepsI; rw [if_pos (.inl h0)])
    clear hns
    go_enter Try.func28, Try.ntmps28
    go_wp2_with fail
    go_ret
    exact ⟨ret_int H.out.symm, rfl⟩
  · cases hg : gtB x 0
    · have H := Lib.hid (show stepsI x n = 0 from by unfold stepsI; rw [if_pos (.inr hg)])
      cases hb : nanB x
      · rw [hb] at hns
        have h1 : (FloatKind.f64.format.order x x != some Ordering.eq) = false := hns
        have h2 : (FloatKind.f64.format.order x 0 == some Ordering.lt || FloatKind.f64.format.order x 0 == some Ordering.eq) = true := le_of_ngt hb hg
        clear hg hns hb
        go_enter Try.func28, Try.ntmps28
        go_wp2_with fail
        go_ret
        exact ⟨ret_int H.out.symm, rfl⟩
      · rw [hb] at hns
        have h1 : (FloatKind.f64.format.order x x != some Ordering.eq) = true := hns
        clear hg hns hb
        go_enter Try.func28, Try.ntmps28
        go_wp2_with fail
        go_ret
        exact ⟨ret_int H.out.symm, rfl⟩
    · have h1 : (FloatKind.f64.format.order x 0 == some Ordering.gt) = true := hg
      rw [nan_of_gt hg] at hns
      have h4 : (FloatKind.f64.format.order x x != some Ordering.eq) = false := hns
      have h5 : (FloatKind.f64.format.order x 0 == some Ordering.lt || FloatKind.f64.format.order x 0 == some Ordering.eq) = false := nle_of_gt hg
      cases hge : geB x 4607182418800017408
      · have h2 : (FloatKind.f64.format.order x 4607182418800017408 == some Ordering.gt || FloatKind.f64.format.order x 4607182418800017408 == some Ordering.eq) = false := hge
        obtain ⟨mx, px⟩ := mag_of_pos hx h1
        have lx := lt_of_ngeq mx (show Mag 4607182418800017408 from by unfold Mag; omega) h2
        obtain ⟨y, hy, my⟩ := mul_mag mx px (by omega) (flt_mag (n := n) (by omega))
        have hrun : ∀ w, (binOp .mul 24 (.float .f64 x) (.float .f64 (floatOfInt .f64 n))).run Try.prog w = .ok (.float .f64 y) w := fun w => run_float_arith w .mul 24 .f64 x _ y hy
        cases hyb : geB y 4890909195324358656
        · have h3 : (FloatKind.f64.format.order y 4890909195324358656 == some Ordering.gt || FloatKind.f64.format.order y 4890909195324358656 == some Ordering.eq) = false := hyb
          obtain ⟨k, hk⟩ := toInt_ok my (lt_of_ngeq my (show Mag 4890909195324358656 from by unfold Mag; omega) h3)
          have hconv : ∀ w, (convert 24 3 (.float .f64 y)).run Try.prog w = .ok (.int .i64 k) w := fun w => run_convert_float_int w 24 3 .f64 .i64 y k (by kernel_rfl) Try.underlying3 hk
          by_cases hkn : n < k
          · have H := Lib.hid (show stepsI x n = n from by
              unfold stepsI; rw [if_neg (by rw [hg]; simp; omega), if_neg (by rw [hge]; simp), hy]
              dsimp only
              rw [if_neg (by rw [hyb]; simp), hk]; dsimp only; rw [if_neg (by omega)])
            clear hg hge hyb hy hk mx my lx px hx hns h1
            go_enter Try.func28, Try.ntmps28
            go_wp2_with fail
            go_ret
            exact ⟨ret_int H.out.symm, rfl⟩
          · have H := Lib.hid (show stepsI x n = k from by
              unfold stepsI; rw [if_neg (by rw [hg]; simp; omega), if_neg (by rw [hge]; simp), hy]
              dsimp only
              rw [if_neg (by rw [hyb]; simp), hk]; dsimp only; split <;> omega)
            clear hg hge hyb hy hk mx my lx px hx hns h1
            go_enter Try.func28, Try.ntmps28
            go_wp2_with fail
            go_ret
            exact ⟨ret_int H.out.symm, rfl⟩
        · have h3 : (FloatKind.f64.format.order y 4890909195324358656 == some Ordering.gt || FloatKind.f64.format.order y 4890909195324358656 == some Ordering.eq) = true := hyb
          have H := Lib.hid (show stepsI x n = n from by
            unfold stepsI; rw [if_neg (by rw [hg]; simp; omega), if_neg (by rw [hge]; simp), hy]
            dsimp only
            rw [if_pos hyb])
          clear hg hge hyb hy mx my lx px hx hns h1
          go_enter Try.func28, Try.ntmps28
          go_wp2_with fail
          go_ret
          exact ⟨ret_int H.out.symm, rfl⟩
      · have h2 : (FloatKind.f64.format.order x 4607182418800017408 == some Ordering.gt || FloatKind.f64.format.order x 4607182418800017408 == some Ordering.eq) = true := hge
        have H := Lib.hid (show stepsI x n = n from by unfold stepsI; rw [if_neg (by rw [hg]; simp; omega), if_pos hge])
        clear hg hge hx hns h1
        go_enter Try.func28, Try.ntmps28
        go_wp2_with fail
        go_ret
        exact ⟨ret_int H.out.symm, rfl⟩

theorem l1 : cmpI (key 9223372036854775808) (key 0) = -1 := by decide
theorem l2 : floatBits .quo .f64 (floatOfInt .f64 1) (floatOfInt .f64 0) = some 9218868437227405312 := by decide +kernel
theorem l3 : stepsI 4602678819172646912 9 = 4 := by decide +kernel
theorem l4 : lessOf (floatOfInt .f64 90) (floatBits .mul .f64 (floatOfInt .f64 100) 4606732058837280358) = true := by decide +kernel
theorem likeB_of {a b : Nat} (h : bitsN a = bitsN b) : likeB a b = true := by unfold likeB; rw [h]; simp

set_option maxHeartbeats 400000 in
theorem live_any (w : World) : Calls Try.prog 14 #[] w fun e w' => e = .returned (.bool true) ∧ Drawn w w' := by
  have H1 := fun w => Lib.hid (of_any 9223372036854775808 w)
  have H2 := fun w => Lib.hid (order_any 9223372036854775808 0 (by decide) (by decide) w)
  have H3 := fun w => Lib.hid (ratio_any 1 0 w)
  have H4 := fun w => Lib.hid (of_any 9218868437227405312 w)
  have H5 := fun w => Lib.hid (steps_any 4602678819172646912 9 (by decide) w)
  have H6 := fun w => Lib.hid (worth_any 100 90 4606732058837280358 w)
  rw [l1] at H2
  rw [l2] at H3
  rw [l3] at H5
  rw [l4] at H6
  go_enter Try.func14, Try.ntmps14
  go_wp2_with fail
  refine (H1 _).out.mono ?_
  rintro e w' ⟨rfl, rfl⟩
  go_wp2_with fail
  refine (H2 _).out.mono ?_
  rintro e w' ⟨rfl, rfl⟩
  go_wp2_with fail
  refine (H3 _).out.mono ?_
  rintro e w' ⟨r, rfl, hr, hd⟩
  have HD := Lib.hid hd
  have HL := Lib.hid (likeB_of (hr.same (b := 9218868437227405312) ⟨.inl rfl, by decide⟩))
  clear hr hd
  go_wp2_with fail
  refine (H4 _).out.mono ?_
  rintro e w1 ⟨rfl, rfl⟩
  go_wp2_with fail
  refine (like_any _ _ _).mono ?_
  rw [HL.out]
  rintro e w1 ⟨rfl, rfl⟩
  go_wp2_with fail
  refine (H5 _).out.mono ?_
  rintro e w1 ⟨rfl, rfl⟩
  go_wp2_with fail
  refine (H6 _).out.mono ?_
  rintro e w1 ⟨b, rfl, rfl, hd1⟩
  have HD1 := Lib.hid hd1
  clear hd1
  go_wp2_with fail
  go_ret
  exact ⟨rfl, HD.out.trans HD1.out⟩
end Go.Proofs.Ytfeldgkjgfjeeaa
