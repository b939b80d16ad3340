/- Two parts changed about: the walk. -/
import Derived.Test.YtfeldgkjgfjeeaaH
namespace Go.Proofs.Ytfeldgkjgfjeeaa
open Go.RowKit Go.Sort Fl
attribute [local go_sem] run_store_float

/-- behind a call that rearranges: some row -/
def Arr (Pd : Array (Nat × Nat) → Prop) (blk off : Nat) (w0 : World) (e : Ending) (w' : World) : Prop := e = .returned (.tuple #[]) ∧ ∃ d', Pd d' ∧ SWK encP 2 w0 blk off d' w'

set_option maxHeartbeats 4000000 in
set_option maxRecDepth 1000000 in
theorem rotate_any (blk off cap a m b : Nat) (d0 d : Array (Nat × Nat)) (w0 w : World) (R : RowK encP 2 w0 blk off d0) (hs : d0.size = d.size) (S : SWK encP 2 w0 blk off d w) (ham : a < m) (hmb : m < b) (hb : b ≤ d.size) (hsz : d.size ≤ 1000) :
    Calls Try.prog 42 #[.slice (some ⟨blk, off, none⟩) d.size cap, .int .i64 a, .int .i64 m, .int .i64 b, .func (.func 37) #[] #[]] w (Arr (Rot a m b d) blk off w0) := by
  have S0 : Aside (SWK encP 2 w0 blk off d w) := S
  have HC : Hid (∀ (a' b' n : Nat) (dk : Array (Nat × Nat)) (wk : World), dk.size = d.size → SWK encP 2 w0 blk off dk wk → a' + n ≤ b' → b' + n ≤ d.size →
      Calls Try.prog 43 #[.slice (some ⟨blk, off, none⟩) d.size cap, .int .i64 a', .int .i64 b', .int .i64 n, .func (.func 37) #[] #[]] wk fun e w' => e = .returned (.tuple #[]) ∧ SWK encP 2 w0 blk off (swapN dk a' b' n) w') := Lib.hid (fun a' b' n dk wk h1 h2 h3 h4 => by
    have h := swapRange_any blk off cap a' b' n d0 dk w0 wk R (by omega) h2 h3 (by omega) (by omega)
    rwa [h1] at h)
  have HR : Hid (∀ dk : Array (Nat × Nat), Rot a m b d dk → Rot a m b d dk) := Lib.hid (fun _ h => h)
  have ea : m - (m - a) = a := by omega
  have eb : m + (b - m) = b := by omega
  have HR0 : Hid (∀ d', Rot (m - (m - a)) m (m + (b - m)) d d' → Rot a m b d d') := Lib.hid (by rw [ea, eb]; exact fun _ h => h)
  clear S ea eb HR
  go_enter Try.func42, Try.ntmps42
  go_wp2_with fail
  go_loopg [10, 11] (m + b) (fun kx s10 s11 wr => ∃ (i j : Nat) (dk : Array (Nat × Nat)), s10 = .int .i64 i ∧ s11 = .int .i64 j ∧ 0 < i ∧ 0 < j ∧ i ≤ m ∧ m + j ≤ d.size ∧ i + j ≤ kx ∧ dk.size = d.size ∧ Aside (SWK encP 2 w0 blk off dk wr) ∧ Hid (∀ d', Rot (m - i) m (m + j) dk d' → Rot a m b d d'))
  case atStart => exact ⟨m - a, b - m, d, by go_num, by go_num, by omega, by omega, by omega, by omega, by omega, rfl, S0, HR0⟩
  case round =>
    clear S0 HR0
    obtain ⟨i, j, dk, rfl, rfl, hi0, hj0, him, hjm, hk, hds, S1, HR⟩ := hrel
    have ei : ((m - i : Nat) : Int) = (m : Int) - (i : Int) := by omega
    by_cases hlt : j < i
    · have hne : ((i : Int) == (j : Int)) = false := beq_eq_false_iff_ne.2 (by omega)
      have H1 := HC.out (m - i) m j dk wr hds S1.out (by omega) (by omega)
      rw [ei] at H1
      have HC1 := Lib.hid H1
      have HR2 : Hid (∀ d', Rot (m - (i - j)) m (m + j) (swapN dk (m - i) m j) d' → Rot a m b d d') := Lib.hid (fun d' h => HR.out d' (rot_more hlt him (by omega) h))
      have hsz2 := swapN_size dk (m - i) m j
      have hgi : (0 : Int) < (i : Int) - (j : Int) := by omega
      rw [hds] at hsz2
      clear H1 ei S1 HR
      generalize swapN dk (m - i) m j = dn at *
      go_wp2_with fail
      refine HC1.out.mono ?_
      rintro e w2 ⟨rfl, S2⟩
      have S3 : Aside _ := S2
      clear S2
      go_wp2_with fail
      go_roundg (i - j + j)
      case measure => omega
      case rel => exact ⟨i - j, j, dn, by first | go_num | (congr 1; omega), rfl, by omega, hj0, by omega, hjm, Nat.le_refl _, hsz2, S3, HR2⟩
    · by_cases hlt2 : i < j
      · have hne : ((i : Int) == (j : Int)) = false := beq_eq_false_iff_ne.2 (by omega)
        have H1 := HC.out (m - i) (m + j - i) i dk wr hds S1.out (by omega) (by omega)
        have ej : ((m + j - i : Nat) : Int) = (m : Int) + (j : Int) - (i : Int) := by omega
        rw [ei, ej] at H1
        have HC1 := Lib.hid H1
        have HR2 : Hid (∀ d', Rot (m - i) m (m + (j - i)) (swapN dk (m - i) (m + j - i) i) d' → Rot a m b d d') := Lib.hid (fun d' h => HR.out d' (rot_less hlt2 him (by omega) h))
        have hsz2 := swapN_size dk (m - i) (m + j - i) i
        have hgi : (0 : Int) < (j : Int) - (i : Int) := by omega
        rw [hds] at hsz2
        clear H1 ei ej S1 HR
        generalize swapN dk (m - i) (m + j - i) i = dn at *
        go_wp2_with fail
        refine HC1.out.mono ?_
        rintro e w2 ⟨rfl, S2⟩
        have S3 : Aside _ := S2
        clear S2
        go_wp2_with fail
        go_roundg (i + (j - i))
        case measure => omega
        case rel => exact ⟨i, j - i, dn, rfl, by first | go_num | (congr 1; omega), hi0, by omega, him, by omega, Nat.le_refl _, hsz2, S3, HR2⟩
      · obtain rfl : i = j := by omega
        have H1 := HC.out (m - i) m i dk wr hds S1.out (by omega) (by omega)
        rw [ei] at H1
        have HC1 := Lib.hid H1
        have HR2 : Hid (Rot a m b d (swapN dk (m - i) m i)) := Lib.hid (HR.out _ (rot_same him (by omega)))
        clear H1 ei S1 HR
        generalize swapN dk (m - i) m i = dn at *
        go_wp2_with fail
        refine HC1.out.mono ?_
        rintro e w2 ⟨rfl, S2⟩
        have S3 : Aside _ := S2
        clear S2
        go_wp2_with fail
        go_end0
        exact ⟨rfl, dn, HR2.out, S3.out⟩
end Go.Proofs.Ytfeldgkjgfjeeaa
