/- Two sorted parts merged in place, where one is a single place: the walk. -/
import Derived.Test.YtfeldgkjgfjeeaaK
namespace Go.Proofs.Ytfeldgkjgfjeeaa
open Go.RowKit Go.Sort Fl
attribute [local go_sem] run_store_float


set_option maxHeartbeats 8000000 in
set_option maxRecDepth 1000000 in
theorem merge_right (blk off cap a m b : Nat) (d0 d : Array (Nat × Nat)) (w0 w : World) (R : RowK encP 2 w0 blk off d0) (hs : d0.size = d.size) (S : SWK encP 2 w0 blk off d w) (ham : a + 1 < m) (hmb : b = m + 1) (hb : b ≤ d.size) (hsz : d.size ≤ 1000)
    (h2 : SortedIn (ltOf cfP) a m d) :
    Calls Try.prog 41 #[.slice (some ⟨blk, off, none⟩) d.size cap, .int .i64 a, .int .i64 m, .int .i64 b, .func (.func 37) #[] #[]] w (Arr (Merged a b d) blk off w0) := by
  have mixed : Try.prog.follows .mixedOrders = true := by kernel_rfl
  have aE := Try.isAgg49
  have zE := Try.sizeOf49
  have hb1 : ((m : Int) - (a : Int) == 1) = false := beq_eq_false_iff_ne.2 (by omega)
  have hb2 : ((b : Int) - (m : Int) == 1) = true := beq_iff_eq.2 (by omega)
  have hmb1 : m < b := by omega
  have HAM := Lib.hid hmb
  have S0 : Aside (SWK encP 2 w0 blk off d w) := S
  have HSo := Lib.hid h2
  clear S h2 hmb
  go_enter Try.func41, Try.ntmps41
  go_wp2_with fail
  go_loopg [14, 15] (m - a) (fun g si sj wr => ∃ (i j : Nat), si = .int .i64 i ∧ sj = .int .i64 j ∧ a ≤ i ∧ i ≤ j ∧ j ≤ m ∧ j - i ≤ g ∧ Aside (SWK encP 2 w0 blk off d wr) ∧ Hid ((∀ t, a ≤ t → t < i → ltOf cfP d[m]! d[t]! = false) ∧ ∀ t, j ≤ t → t < m → ltOf cfP d[m]! d[t]! = true))
  case atStart => exact ⟨a, m, rfl, rfl, Nat.le_refl _, by omega, Nat.le_refl _, Nat.le_refl _, S0, Lib.hid ⟨fun t x y => by omega, fun t x y => by omega⟩⟩
  case round =>
    clear S0
    obtain ⟨i, j, rfl, rfl, hmi, hij, hjb, hg, S1, HI⟩ := hrel
    by_cases hlt : i < j
    · obtain ⟨h, hh, hih, hhj⟩ := half i j hlt
      have HK := Lib.hid (seek_right (lt := ltOf cfP) swoP (a := a) (m := m) (h := h) (d := d) HSo.out (by omega) (by omega))
      have hz : (h : Int) < (d.size : Int) := by omega
      have az : (m : Int) < (d.size : Int) := by omega
      obtain ⟨⟨x1, x2⟩, -, -⟩ := cells_at S1.out R (by omega) m (by omega)
      obtain ⟨⟨y1, y2⟩, -, -⟩ := cells_at S1.out R (by omega) h (by omega)
      have hc := cmp_at d[m]! d[h]! wr
      have HS2 : Hid (∀ n os, SWK encP 2 w0 blk off d (grow (wr.drewN n) os)) := Lib.hid (fun n os => S1.out.grown n os)
      have HLv : Hid (cfP d[m]! d[h]! < 0 ↔ ltOf cfP d[m]! d[h]! = true) := Lib.hid (by unfold ltOf; rw [decide_eq_true_iff])
      clear S1
      by_cases hlv : cfP d[m]! d[h]! < 0
      · have HN := Lib.hid (HK.out.2 (HLv.out.1 hlv))
        clear HK HLv
        generalize cfP d[m]! d[h]! = cv at hc hlv
        have hd : decide (cv < 0) = true := decide_eq_true hlv
        generalize d[m]!.1 = p1 at x1 hc
        generalize d[m]!.2 = p2 at x2 hc
        generalize d[h]!.1 = q1 at y1 hc
        generalize d[h]!.2 = q2 at y2 hc
        go_wp2_with fail
        go_quiet_grown (first | (go_at_call 37; refine Calls.grown_of (hc _ _)))
        have S3 : Aside _ := HS2.out nq osq
        clear x1 x2 y1 y2 HS2 hc
        generalize grow (wr.drewN nq) osq = w2 at *
        go_wp2_with fail
        go_roundg (h - i)
        case measure => omega
        case rel => exact ⟨i, h, rfl, rfl, hmi, hih, by omega, Nat.le_refl _, S3, Lib.hid ⟨HI.out.1, HN.out⟩⟩
      · have HN := Lib.hid (HK.out.1 (by unfold ltOf; exact decide_eq_false hlv))
        clear HK HLv
        generalize cfP d[m]! d[h]! = cv at hc hlv
        have hd : decide (cv < 0) = false := decide_eq_false hlv
        generalize d[m]!.1 = p1 at x1 hc
        generalize d[m]!.2 = p2 at x2 hc
        generalize d[h]!.1 = q1 at y1 hc
        generalize d[h]!.2 = q2 at y2 hc
        go_wp2_with fail
        go_quiet_grown (first | (go_at_call 37; refine Calls.grown_of (hc _ _)))
        have S3 : Aside _ := HS2.out nq osq
        clear x1 x2 y1 y2 HS2 hc
        generalize grow (wr.drewN nq) osq = w2 at *
        go_wp2_with fail
        go_roundg (j - (h + 1))
        case measure => omega
        case rel => exact ⟨h + 1, j, by go_num, rfl, by omega, by omega, hjb, Nat.le_refl _, S3, Lib.hid ⟨HN.out, HI.out.2⟩⟩
    · obtain rfl : i = j := by omega
      go_wp2_with fail
      go_loopg [17] (m - i) (fun g sk wr => ∃ (k : Nat) (dk : Array (Nat × Nat)), sk = .int .i64 k ∧ i ≤ k ∧ k ≤ m ∧ k - i ≤ g ∧ dk.size = d.size ∧ Aside (SWK encP 2 w0 blk off dk wr) ∧ Hid (ShR m k d dk ∧ PermIn a b d dk))
      case atStart => exact ⟨m, d, rfl, by omega, Nat.le_refl _, Nat.le_refl _, rfl, S1, Lib.hid ⟨ShR.start m d, permIn_refl _ _ _⟩⟩
      case round =>
        clear S1
        obtain ⟨k, dk, rfl, hik, hkm, hg2, hds, S1, HSh⟩ := hrel
        by_cases hlt2 : i < k
        · obtain ⟨k, rfl⟩ : ∃ q, k = q + 1 := ⟨k - 1, by omega⟩
          have kz : (i : Int) < (k : Int) + 1 := by omega
          have kz1 : (k : Int) + 1 < (d.size : Int) := by omega
          have kz2 : (k : Int) < (d.size : Int) := by omega
          have kz3 : (0 : Int) ≤ (k : Int) + 1 := by omega
          have kz4 : ((k : Int) + 1).toNat = k + 1 := by omega
          have kz5 : IntKind.i64.wrap (k : Int) = (k : Int) := by rw [IntKind.wrap_i64]; omega
          have HSh2 : Hid (ShR m k d (swp dk (k + 1) k) ∧ PermIn a b d (swp dk (k + 1) k)) := Lib.hid ⟨HSh.out.1.step (by omega) hkm, permIn_trans _ _ _ _ _ HSh.out.2 (swp_permIn _ _ _ _ _ (by omega) (by omega) (by omega) (by omega) (by omega))⟩
          have HSz : Hid ((swp dk (k + 1) k).size = d.size) := Lib.hid (by rw [size_swp]; exact hds)
          have S2 : Aside _ := swapped_cells S1.out R (k + 1) k (by omega) (by omega)
          obtain ⟨⟨x1, x2⟩, x3, x4⟩ := place_cells S1.out R (by omega) k (by omega)
          obtain ⟨⟨y1, y2⟩, y3, y4⟩ := place_cells S1.out R (by omega) (k + 1) (by omega)
          clear S1 HSh
          generalize swp dk (k + 1) k = dn at *
          generalize dk[k]!.1 = p1 at *
          generalize dk[k]!.2 = p2 at *
          generalize dk[k + 1]!.1 = q1 at *
          generalize dk[k + 1]!.2 = q2 at *
          go_wp2_with fail
          go_big_region_o
          clear x1 x2 x3 x4 y1 y2 y3 y4
          generalize World.drew _ = w2 at S2 ⊢
          go_wp2_with fail
          go_roundg (k - i)
          case measure => omega
          case rel => exact ⟨k, dn, by first | rfl | go_num | (congr 1; omega), by omega, by omega, Nat.le_refl _, HSz.out, S2, HSh2⟩
        · have hk2 : k = i := by omega
          have HF : Hid (Merged a b d dk) := Lib.hid ⟨HSh.out.2, by have h := ShR.sorted (i := i) (a := a) swoP (hk2 ▸ HSh.out.1) HSo.out (by omega) (by omega) HI.out.1 HI.out.2; rwa [← HAM.out] at h⟩
          clear hk2
          go_wp2_with fail
          go_end0
          exact ⟨rfl, dk, HF.out, S1.out⟩
end Go.Proofs.Ytfeldgkjgfjeeaa
