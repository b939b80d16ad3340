/- Contracts of the small functions of packages gauge, portmanteauref03 and the law's own helpers. -/
import Derived.Test.YtfeldgkjgfjeeaaRows
import Derived.Test.YtfeldgkjgfjeeaaFl
import Derived.WalkKit
import Derived.WalkSpells
import Derived.WalkLawsBesides
import Derived.Lib.Hide
import Derived.Laws.BitsAllLaws
namespace Go.Proofs.Ytfeldgkjgfjeeaa
open Go.RowKit Fl

theorem run34 (x : Nat) (w : World) : (callFunc 34 #[.float .f64 x]).run Try.prog w = .ok (.value (.int .u64 (x : Int))) w := by
  rw [run_callFunc_extern (P := Try.prog) (f := 34) (fn := Try.f34) (e := Extern.MathFloatBits.float64bits) (by kernel_rfl) (by kernel_rfl) (by kernel_rfl) (by kernel_rfl) (by kernel_rfl)]
  rfl
theorem run32 (x : Nat) (w : World) : (callFunc 32 #[.int .u64 (x : Int)]).run Try.prog w = .ok (.value (.float .f64 x)) w := by
  rw [run_callFunc_extern (P := Try.prog) (f := 32) (fn := Try.f32) (e := Extern.MathFloatBits.float64frombits) (by kernel_rfl) (by kernel_rfl) (by kernel_rfl) (by kernel_rfl) (by kernel_rfl)]
  rfl
theorem ret_int {k : IntKind} {a b : Int} (h : a = b) : Ending.returned (.int k a) = .returned (.int k b) := by rw [h]

theorem run_float_any (op : BinOp) (t : TypeId) (x y : Nat) (w : World) (hop : op = .add ∨ op = .sub ∨ op = .mul ∨ op = .quo) :
    ∃ r n, (binOp op t (.float .f64 x) (.float .f64 y)).run Try.prog w = .ok (.float .f64 r) (w.drewN n) ∧ FR (floatBits op .f64 x y) r := by
  cases h : floatBits op .f64 x y with
  | some r =>
    refine ⟨r, 0, run_float_arith w op t .f64 x y r h, .inl rfl, ?_⟩
    have := floatBits_wf h
    simpa [Lit.wf] using this
  | none =>
    refine ⟨Question.cut (.nanBits .f64 x y) (w.tape w.drawn (.nanBits .f64 x y)), 1, ?_, .inr ⟨rfl, (nan_cut x y _).1⟩, (nan_cut x y _).2⟩
    unfold floatBits at h
    rcases hop with rfl | rfl | rfl | rfl <;> (simp only at h; simp [binOp, Op.floatArith, h, Question.forced, World.drew_is_drewN])

set_option maxHeartbeats 400000 in
theorem of_any (x : Nat) (w : World) :
    Calls Try.prog 12 #[.int .u64 (x : Int)] w fun e w' => e = .returned (.float .f64 x) ∧ w = w' := by
  have h32 := run32
  go_enter Try.func12, Try.ntmps12
  go_wp2
  go_ret
  exact ⟨rfl, rfl⟩

set_option maxHeartbeats 400000 in
theorem bits_any (x : Nat) (w : World) :
    Calls Try.prog 31 #[.float .f64 x] w fun e w' => e = .returned (.int .u64 (bitsN x : Int)) ∧ w = w' := by
  have h34 := run34
  have hn := neq_self x
  cases hb : nanB x
  · rw [hb] at hn
    have h1 : (FloatKind.f64.format.order x x != some Ordering.eq) = false := hn
    have hfin : bitsN x = x := by unfold bitsN; rw [hb]; rfl
    have H := Lib.hid hfin
    clear hfin hn hb
    go_enter Try.func31, Try.ntmps31
    go_wp2
    go_ret
    exact ⟨by rw [H.out]; rfl, rfl⟩
  · rw [hb] at hn
    have h1 : (FloatKind.f64.format.order x x != some Ordering.eq) = true := hn
    have hfin : bitsN x = 9221120237041090561 := by unfold bitsN; rw [hb]; rfl
    have H := Lib.hid hfin
    clear hfin hn hb
    go_enter Try.func31, Try.ntmps31
    go_wp2
    go_ret
    exact ⟨by rw [H.out]; rfl, rfl⟩

set_option maxHeartbeats 400000 in
theorem cmp_any (x y : Nat) (w : World) :
    Calls Try.prog 33 #[.int .u64 (x : Int), .int .u64 (y : Int)] w fun e w' => e = .returned (.int .i64 (cmpI x y)) ∧ w = w' := by
  by_cases h1 : x < y
  · have H := Lib.hid (show cmpI x y = -1 from by unfold cmpI; rw [if_pos h1])
    go_enter Try.func33, Try.ntmps33
    go_wp2
    go_ret
    exact ⟨by rw [H.out]; rfl, rfl⟩
  · by_cases h2 : y < x
    · have H := Lib.hid (show cmpI x y = 1 from by unfold cmpI; rw [if_neg h1, if_pos h2])
      go_enter Try.func33, Try.ntmps33
      go_wp2
      go_ret
      exact ⟨by rw [H.out]; rfl, rfl⟩
    · have H := Lib.hid (show cmpI x y = 0 from by unfold cmpI; rw [if_neg h1, if_neg h2])
      go_enter Try.func33, Try.ntmps33
      go_wp2
      go_ret
      exact ⟨by rw [H.out]; rfl, rfl⟩

theorem or_top (x : Nat) (h : x < 9223372036854775808) : bits .or .u64 (x : Int) 9223372036854775808 = ((x + 9223372036854775808 : Nat) : Int) := by
  have e := u64_or_nat x 9223372036854775808 (by omega) (by omega)
  rw [Nat.or_comm, nat_join 63 9223372036854775808 x (by decide) h, Nat.add_comm] at e
  exact e
theorem xor_max (x : Nat) (h : x < 18446744073709551616) : bits .xor .u64 IntKind.u64.max (x : Int) = ((18446744073709551615 - x : Nat) : Int) := by
  show IntKind.u64.wrap ((BitVec.ofInt 64 (18446744073709551615 : Int) ^^^ BitVec.ofInt 64 (x : Int)).toNat : Int) = _
  have h1 : BitVec.ofInt 64 (18446744073709551615 : Int) = BitVec.allOnes 64 := by decide
  rw [h1, BitVec.allOnes_xor, BitVec.toNat_not, ofInt_u64 x h]
  simp [IntKind.wrap, IntKind.bits, IntKind.signed]
  omega

set_option maxHeartbeats 400000 in
theorem key_any (x : Nat) (hx : x < 18446744073709551616) (w : World) :
    Calls Try.prog 16 #[.float .f64 x] w fun e w' => e = .returned (.int .u64 (key x : Int)) ∧ w = w' := by
  have h34 := run34
  have hn := neq_self x
  cases hb : nanB x
  · rw [hb] at hn
    have h1 : (FloatKind.f64.format.order x x != some Ordering.eq) = false := hn
    by_cases hs : x < 9223372036854775808
    · have H := Lib.hid (show bits .or .u64 (x : Int) 9223372036854775808 = (key x : Int) from by rw [or_top x hs]; unfold key; rw [hb, if_neg (by decide), if_pos hs])
      have h2 : ((x : Int) / 9223372036854775808 == 0) = true := by rw [beq_iff_eq]; omega
      clear hn hb hx hs
      go_enter Try.func16, Try.ntmps16
      go_wp2
      go_ret
      exact ⟨ret_int H.out, rfl⟩
    · have H := Lib.hid (show bits .xor .u64 IntKind.u64.max (x : Int) = (key x : Int) from by rw [xor_max x hx]; unfold key; rw [hb, if_neg (by decide), if_neg hs])
      have h2 : ((x : Int) / 9223372036854775808 == 0) = false := by rw [beq_eq_false_iff_ne]; omega
      clear hn hb hx hs
      go_enter Try.func16, Try.ntmps16
      go_wp2
      go_ret
      exact ⟨ret_int H.out, rfl⟩
  · rw [hb] at hn
    have h1 : (FloatKind.f64.format.order x x != some Ordering.eq) = true := hn
    have H := Lib.hid (show bits .or .u64 9221120237041090561 9223372036854775808 = (key x : Int) from by
      have := or_top 9221120237041090561 (by decide)
      unfold key; rw [hb, if_pos rfl]; exact this)
    clear hn hb hx
    go_enter Try.func16, Try.ntmps16
    go_wp2
    go_ret
    exact ⟨ret_int H.out, rfl⟩

end Go.Proofs.Ytfeldgkjgfjeeaa
