/- Contracts of the two means. -/
import Derived.Test.YtfeldgkjgfjeeaaM
namespace Go.Proofs.Ytfeldgkjgfjeeaa
open Go.RowKit Fl

def foldO (xs : List Nat) (k : Nat) : Option Nat := ((xs.take k).drop 1).foldl (fun o x => o.bind fun a => floatBits .add .f64 a x) (some (xs.getD 0 0))
def meanO (xs : List Nat) : Option Nat := (foldO xs xs.length).bind fun a => floatBits .quo .f64 a (floatOfInt .f64 (xs.length : Int))
theorem foldO_one (xs : List Nat) : foldO xs 1 = some (xs.getD 0 0) := by
  unfold foldO
  cases xs <;> rfl
theorem foldO_succ (xs : List Nat) (k : Nat) (h0 : 1 ≤ k) (h : k < xs.length) : foldO xs (k + 1) = (foldO xs k).bind fun a => floatBits .add .f64 a (xs.getD k 0) := by
  unfold foldO
  rw [List.take_succ_eq_append_getElem h, List.drop_append_of_le_length (by simp; omega), List.foldl_append]
  simp [List.getElem?_eq_getElem h]

def Sum (xs : List Nat) (k r : Nat) : Prop := FR (foldO xs k) r
theorem Sum.next {xs : List Nat} {k r r' : Nat} (h : Sum xs k r) (h0 : 1 ≤ k) (hk : k < xs.length) (h' : FR (floatBits .add .f64 r (xs.getD k 0)) r') : Sum xs (k + 1) r' := by
  unfold Sum at *
  rw [foldO_succ xs k h0 hk]
  rwa [h.left] at h'

theorem Sum.mean {xs : List Nat} {n r r' : Nat} (h : Sum xs n r) (hn : xs.length = n) (h' : FR (floatBits .quo .f64 r (floatOfInt .f64 (n : Int))) r') : FR (meanO xs) r' := by
  unfold Sum at h
  unfold meanO
  rw [hn]
  rwa [h.left] at h'

set_option maxHeartbeats 400000 in
theorem mean_any (b off n c : Nat) (xs : List Nat) (w : World) (hn : xs.length = n) (h1 : 1 ≤ n) (h2 : n ≤ 1000) (hnc : n ≤ c) (hcm : c ≤ maxLen) (hx0 : xs.getD 0 0 < 18446744073709551616)
    (hcell : ∀ j, j < n → w.cell? ⟨b, off + j, none⟩ = some (.float .f64 (xs.getD j 0))) :
    Calls Try.prog 21 #[.slice (some ⟨b, off, none⟩) n c] w (SomeFloat (meanO xs) w) := by
  obtain ⟨q, rfl⟩ : ∃ q, n = q + 1 := ⟨n - 1, by omega⟩
  have hne : ((q : Int) + 1 == 0) = false := by rw [beq_eq_false_iff_ne]; omega
  have hc0 : w.cell? ⟨b, off, none⟩ = some (.float .f64 (xs.getD 0 0)) := hcell 0 (by omega)
  have HN := Lib.hid hn
  have S1 := Lib.hid (show Sum xs 1 (xs.getD 0 0) from ⟨.inl (foldO_one xs), hx0⟩)
  have HC := Lib.hid hcell
  have hcm' : c ≤ 9223372036854775807 := hcm
  clear hcm hn hcell hx0 h1
  generalize xs.getD 0 0 = x0 at *
  by_cases hc2 : 1 < c
  · go_enter Try.func21, Try.ntmps21
    go_wp2_with fail
    go_loopw [3, 16] (fun s i wr => ∃ (k m r : Nat), k ≤ q ∧ i = .int .i64 k ∧ s = .float .f64 r ∧ Hid (Sum xs (k + 1) r) ∧ wr = w.drewN m) (fun _ i _ => q - (intOf i).toNat)
    case atStart => exact ⟨0, 0, x0, Nat.zero_le _, rfl, rfl, S1, rfl⟩
    case round =>
      obtain ⟨k, m, r, hk, rfl, rfl, HS, rfl⟩ := hrel
      by_cases hlt : k < q
      · have hcx : w.cell? ⟨b, off + 1 + k, none⟩ = some (.float .f64 (xs.getD (k + 1) 0)) := by
          have := HC.out (k + 1) (by omega)
          rwa [show off + 1 + k = off + (k + 1) from by omega]
        obtain ⟨r', m', hrun, hr'⟩ := run_float_any .add 24 r (xs.getD (k + 1) 0) (w.drewN m) (by simp)
        have HS' := Lib.hid (HS.out.next (by omega) (by rw [HN.out]; omega) hr')
        clear hr'
        generalize xs.getD (k + 1) 0 = x at *
        simp only [World.drewN_drewN] at hrun
        go_wp2_with fail
        go_roundw
        case rel => exact ⟨k + 1, m + m', r', by omega, by go_num, rfl, HS', rfl⟩
        case measure => simp [intOf]; omega
      · obtain rfl : k = q := by omega
        obtain ⟨r', m', hrun, hr'⟩ := run_float_any .quo 24 r (floatOfInt .f64 ((k : Int) + 1)) (w.drewN m) (by simp)
        have HE := Lib.hid (HS.out.mean HN.out (r' := r') hr')
        clear hr'
        simp only [World.drewN_drewN] at hrun
        go_wp2_with fail
        go_ret
        exact ⟨r', rfl, HE.out, m + m', rfl⟩
  · obtain rfl : c = 1 := by omega
    obtain rfl : q = 0 := by omega
    have HS := S1
    obtain ⟨r', m', hrun, hr'⟩ := run_float_any .quo 24 x0 (floatOfInt .f64 1) w (by simp)
    have HE := Lib.hid (HS.out.mean HN.out (r' := r') hr')
    clear hr'
    go_enter Try.func21, Try.ntmps21
    go_wp2_with fail
    refine wp_loop_rounds 1 ?_
    rw [rounds_succ]
    go_wp2_with fail
    go_ret
    exact ⟨r', rfl, HE.out, m', rfl⟩

set_option maxHeartbeats 400000 in
theorem rmean_any (b off n c : Nat) (xs : List Nat) (w : World) (hn : xs.length = n) (h1 : 1 ≤ n) (h2 : n ≤ 1000) (hx0 : xs.getD 0 0 < 18446744073709551616)
    (hcell : ∀ j, j < n → w.cell? ⟨b, off + j, none⟩ = some (.float .f64 (xs.getD j 0))) :
    Calls Try.prog 22 #[.slice (some ⟨b, off, none⟩) n c] w (SomeFloat (meanO xs) w) := by
  have hne : ((n : Int) == 0) = false := by rw [beq_eq_false_iff_ne]; omega
  have hc0 : w.cell? ⟨b, off, none⟩ = some (.float .f64 (xs.getD 0 0)) := hcell 0 (by omega)
  have HN := Lib.hid hn
  have S1 := Lib.hid (show Sum xs 1 (xs.getD 0 0) from ⟨.inl (foldO_one xs), hx0⟩)
  have HC := Lib.hid hcell
  clear hn hcell hx0
  generalize xs.getD 0 0 = x0 at *
  go_enter Try.func22, Try.ntmps22
  go_wp2_with fail
  go_loopw [3, 4] (fun s i wr => ∃ (k m r : Nat), 1 ≤ k ∧ k ≤ n ∧ i = .int .i64 k ∧ s = .float .f64 r ∧ Hid (Sum xs k r) ∧ wr = w.drewN m) (fun _ i _ => n - (intOf i).toNat)
  case atStart => exact ⟨1, 0, x0, Nat.le_refl _, h1, rfl, rfl, S1, rfl⟩
  case round =>
    obtain ⟨k, m, r, hk1, hk, rfl, rfl, HS, rfl⟩ := hrel
    by_cases hlt : k < n
    · have hcx : w.cell? ⟨b, off + k, none⟩ = some (.float .f64 (xs.getD k 0)) := HC.out k hlt
      obtain ⟨r', m', hrun, hr'⟩ := run_float_any .add 24 r (xs.getD k 0) (w.drewN m) (by simp)
      have HS' := Lib.hid (HS.out.next hk1 (by rw [HN.out]; omega) hr')
      clear hr'
      generalize xs.getD k 0 = x at *
      simp only [World.drewN_drewN] at hrun
      go_wp2_with fail
      go_roundw
      case rel => exact ⟨k + 1, m + m', r', by omega, by omega, by go_num, rfl, HS', rfl⟩
      case measure => simp [intOf]; omega
    · obtain rfl : k = n := by omega
      obtain ⟨r', m', hrun, hr'⟩ := run_float_any .quo 24 r (floatOfInt .f64 (k : Int)) (w.drewN m) (by simp)
      have HE := Lib.hid (HS.out.mean HN.out (r' := r') hr')
      clear hr'
      simp only [World.drewN_drewN] at hrun
      go_wp2_with fail
      go_ret
      exact ⟨r', rfl, HE.out, m + m', rfl⟩

def nanO : Option Nat := none
set_option maxHeartbeats 400000 in
theorem mean_none (a : Option Addr) (c : Nat) (w : World) : Calls Try.prog 21 #[.slice a 0 c] w (SomeFloat nanO w) := by
  have h32 : ∀ w, (callFunc 32 #[.int .u64 9221120237041090561]).run Try.prog w = .ok (.value (.float .f64 9221120237041090561)) w := run32 9221120237041090561
  have HE := Lib.hid (show FR nanO 9221120237041090561 from ⟨.inr ⟨rfl, by decide⟩, by decide⟩)
  go_enter Try.func21, Try.ntmps21
  go_wp2
  go_ret
  exact ⟨_, rfl, HE.out, 0, rfl⟩
set_option maxHeartbeats 400000 in
theorem rmean_none (a : Option Addr) (c : Nat) (w : World) : Calls Try.prog 22 #[.slice a 0 c] w (SomeFloat nanO w) := by
  have h32 : ∀ w, (callFunc 32 #[.int .u64 9221120237041090561]).run Try.prog w = .ok (.value (.float .f64 9221120237041090561)) w := run32 9221120237041090561
  have HE := Lib.hid (show FR nanO 9221120237041090561 from ⟨.inr ⟨rfl, by decide⟩, by decide⟩)
  go_enter Try.func22, Try.ntmps22
  go_wp2
  go_ret
  exact ⟨_, rfl, HE.out, 0, rfl⟩
end Go.Proofs.Ytfeldgkjgfjeeaa
