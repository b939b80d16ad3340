/- The insertion sort of a part: the walk. -/
import Derived.Test.YtfeldgkjgfjeeaaI
import Derived.Sort.WalkA
namespace Go.Proofs.Ytfeldgkjgfjeeaa
open Go.RowKit Go.Sort Fl
attribute [local go_sem] run_store_float

/-- the comparison, in whatever world of the class -/
theorem cmp_at (x y : Nat × Nat) (W : World) (n : Nat) (os : Array Obj) :
    Calls Try.prog 37 #[.agg #[.int .u64 (x.1 : Int), .float .f64 x.2], .agg #[.int .u64 (y.1 : Int), .float .f64 y.2]] (grow (W.drewN n) os) fun e w' => e = .returned (.int .i64 (cfP x y)) ∧ ∃ q os', w' = grow ((grow (W.drewN n) os).drewN q) os' :=
  against_any x y _
theorem cells_at {w0 W : World} {blk off : Nat} {d0 dk : Array (Nat × Nat)} (S : SWK encP 2 w0 blk off dk W) (R : RowK encP 2 w0 blk off d0) (hs : dk.size = d0.size) (i : Nat) (hi : i < dk.size) :
    ((∀ n os, (grow (W.drewN n) os).cell? ⟨blk, off + i * 2, none⟩ = some (.int .u64 (dk[i]!.1 : Int))) ∧ (∀ n os, (grow (W.drewN n) os).cell? ⟨blk, off + i * 2 + 1, none⟩ = some (.float .f64 dk[i]!.2))) ∧
    (∀ n os, (grow (W.drewN n) os).frozen? ⟨blk, off + i * 2, none⟩ = false) ∧ (∀ n os, (grow (W.drewN n) os).frozen? ⟨blk, off + i * 2 + 1, none⟩ = false) :=
  ⟨⟨fun n os => (place_cells (S.grown n os) R hs i hi).1.1, fun n os => (place_cells (S.grown n os) R hs i hi).1.2⟩, fun n os => (place_cells (S.grown n os) R hs i hi).2.1, fun n os => (place_cells (S.grown n os) R hs i hi).2.2⟩

set_option maxHeartbeats 4000000 in
set_option maxRecDepth 1000000 in
theorem insertion_any (blk off cap a b : Nat) (d0 d : Array (Nat × Nat)) (w0 w : World) (R : RowK encP 2 w0 blk off d0) (hs : d0.size = d.size) (S : SWK encP 2 w0 blk off d w) (hab : a ≤ b) (hb : b ≤ d.size) (hsz : d.size ≤ 1000) :
    Calls Try.prog 40 #[.slice (some ⟨blk, off, none⟩) d.size cap, .int .i64 a, .int .i64 b, .func (.func 37) #[] #[]] w (Arr (fun d' => PermIn a b d d' ∧ SortedIn (ltOf cfP) a b d') blk off w0) := by
  have mixed : Try.prog.follows .mixedOrders = true := by kernel_rfl
  have aE := Try.isAgg49
  have zE := Try.sizeOf49
  have S0 : Aside (SWK encP 2 w0 blk off d w) := S
  have HFin : Hid (insOuter (ltOf cfP) a b (a + 1) d = insertionSort (ltOf cfP) d a b) := Lib.hid rfl
  clear S
  go_enter Try.func40, Try.ntmps40
  go_wp2_with fail
  go_loopg [8] (b - a) (fun g1 vi wr => ∃ (i : Nat) (dk : Array (Nat × Nat)), vi = .int .i64 i ∧ a < i ∧ i ≤ b + 1 ∧ b + 1 - i ≤ g1 + 1 ∧ dk.size = d.size ∧ Aside (SWK encP 2 w0 blk off dk wr) ∧ Hid (insOuter (ltOf cfP) a b i dk = insOuter (ltOf cfP) a b (a + 1) d))
  case atStart => exact ⟨a + 1, d, by go_num, by omega, by omega, by omega, rfl, S0, Lib.hid rfl⟩
  case round =>
    clear S0
    obtain ⟨i, dk, rfl, hai, hib, hg1, hsk, S1, HO⟩ := hrel
    by_cases hlt : i < b
    · go_wp2_with fail
      go_loopg [9] i (fun g2 vj wr2 => ∃ (j : Nat) (dj : Array (Nat × Nat)), vj = .int .i64 j ∧ a ≤ j ∧ j ≤ i ∧ j ≤ g2 ∧ dj.size = d.size ∧ Aside (SWK encP 2 w0 blk off dj wr2) ∧ Hid (insInner (ltOf cfP) a j dj = insInner (ltOf cfP) a i dk))
      case atStart => exact ⟨i, dk, rfl, by omega, Nat.le_refl _, Nat.le_refl _, hsk, S1, Lib.hid rfl⟩
      case round =>
        clear S1
        obtain ⟨j, dj, rfl, haj, hji, hg2, hsj, S1, HI⟩ := hrel
        have OUT : Hid ((j ≤ a ∨ ltOf cfP dj[j]! dj[j - 1]! = false) → insOuter (ltOf cfP) a b (i + 1) dj = insOuter (ltOf cfP) a b (a + 1) d) := Lib.hid (fun hs => by
          rw [← HO.out, insOuter_go _ _ _ _ _ hlt, ← HI.out, insInner_stop _ _ _ _ hs])
        by_cases hja : a < j
        · obtain ⟨jp, rfl⟩ : ∃ jp, j = jp + 1 := ⟨j - 1, by omega⟩
          have hwp : IntKind.i64.wrap (jp : Int) = (jp : Int) := by rw [IntKind.wrap_i64]; omega
          have jz : (jp : Int) + 1 < (d.size : Int) := by omega
          have jz1 : (jp : Int) < (d.size : Int) := by omega
          have hjaz : (a : Int) < (jp : Int) + 1 := by omega
          have p0 : (0 : Int) ≤ (jp : Int) + 1 := by omega
          have e0 : ((jp : Int) + 1).toNat = jp + 1 := by omega
          obtain ⟨⟨x1, x2⟩, x3, x4⟩ := cells_at S1.out R (by omega) (jp + 1) (by omega)
          obtain ⟨⟨y1, y2⟩, y3, y4⟩ := cells_at S1.out R (by omega) jp (by omega)
          have hc := cmp_at dj[jp + 1]! dj[jp]! wr
          have HS2 : Hid (∀ n os, SWK encP 2 w0 blk off dj (grow (wr.drewN n) os)) := Lib.hid (fun n os => S1.out.grown n os)
          have HSw : Hid _ := Lib.hid (fun n os => swapped_cells (S1.out.grown n os) R (jp + 1) jp (by omega) (by omega))
          have X3 := Lib.hid x3
          have X4 := Lib.hid x4
          have Y3 := Lib.hid y3
          have Y4 := Lib.hid y4
          have HLv : Hid (cfP dj[jp + 1]! dj[jp]! < 0 ↔ ltOf cfP dj[jp + 1]! dj[jp]! = true) := Lib.hid (by unfold ltOf; rw [decide_eq_true_iff])
          clear S1 x3 x4 y3 y4
          by_cases hlv : cfP dj[jp + 1]! dj[jp]! < 0
          · have HGo : Hid (insInner (ltOf cfP) a jp (swp dj (jp + 1) jp) = insInner (ltOf cfP) a i dk) := Lib.hid (by
              have h := insInner_go (ltOf cfP) a (jp + 1) dj hja (by simp only [Nat.add_sub_cancel]; exact HLv.out.1 hlv)
              simp only [Nat.add_sub_cancel] at h
              rw [← h]; exact HI.out)
            have HSz : Hid ((swp dj (jp + 1) jp).size = d.size) := Lib.hid (by rw [size_swp]; exact hsj)
            clear OUT HLv HI HS2
            generalize swp dj (jp + 1) jp = dn at *
            generalize cfP dj[jp + 1]! dj[jp]! = cv at *
            generalize dj[jp + 1]!.1 = p1 at *
            generalize dj[jp + 1]!.2 = p2 at *
            generalize dj[jp]!.1 = q1 at *
            generalize dj[jp]!.2 = q2 at *
            go_wp2_with fail
            go_quiet_grown (first | (go_at_call 37; refine Calls.grown_of (hc _ _)))
            have S3 := Lib.hid (HSw.out nq osq)
            have z1 := x1 nq osq
            have z2 := x2 nq osq
            have z3 := X3.out nq osq
            have z4 := X4.out nq osq
            have v1 := y1 nq osq
            have v2 := y2 nq osq
            have v3 := Y3.out nq osq
            have v4 := Y4.out nq osq
            clear x1 x2 y1 y2 X3 X4 Y3 Y4 HSw hc
            generalize grow (wr.drewN nq) osq = w2 at *
            go_wp2_with fail
            go_big_region_o
            clear z1 z2 z3 z4 v1 v2 v3 v4
            have S4 : Aside _ := S3.out
            clear S3
            generalize World.drew _ = w3 at S4 ⊢
            go_wp2_with fail
            go_roundg jp
            case measure => omega
            case rel => exact ⟨jp, dn, by first | rfl | go_num | (congr 1; omega), by omega, by omega, Nat.le_refl _, HSz.out, S4, HGo⟩
          · have HOut := Lib.hid (OUT.out (.inr (by simp only [Nat.add_sub_cancel]; unfold ltOf; exact decide_eq_false hlv)))
            clear OUT HLv HI HSw X3 X4 Y3 Y4
            generalize cfP dj[jp + 1]! dj[jp]! = cv at *
            generalize dj[jp + 1]!.1 = p1 at *
            generalize dj[jp + 1]!.2 = p2 at *
            generalize dj[jp]!.1 = q1 at *
            generalize dj[jp]!.2 = q2 at *
            go_wp2_with fail
            go_quiet_grown (first | (go_at_call 37; refine Calls.grown_of (hc _ _)))
            have S3 : Aside _ := HS2.out nq osq
            clear x1 x2 y1 y2 HS2 hc
            generalize grow (wr.drewN nq) osq = w2 at *
            go_wp2_with fail
            go_roundg (b - (i + 1))
            case measure => omega
            case rel => exact ⟨i + 1, dj, by go_num, by omega, by omega, by omega, hsj, S3, HOut⟩
        · have hjaz : decide ((j : Int) > (a : Int)) = false := decide_eq_false (by omega)
          have hjaz' : ¬ (a : Int) < (j : Int) := by omega
          have HOut := Lib.hid (OUT.out (.inl (by omega)))
          have S3 : Aside _ := S1.out.drew
          clear S1 OUT HI
          go_wp2_with fail
          go_big_region_o
          all_goals generalize World.drew _ = w3 at S3 ⊢
          all_goals go_wp2_with fail
          all_goals go_roundg (b - (i + 1))
          case measure => omega
          case rel => exact ⟨i + 1, dj, by go_num, by omega, by omega, by omega, hsj, S3, HOut⟩
    · have HEnd : Hid (dk = insertionSort (ltOf cfP) d a b) := Lib.hid (by rw [← HFin.out, ← HO.out, insOuter_stop _ _ _ _ _ hlt])
      have HSp := Lib.hid (insertionSort_holds (lt := ltOf cfP) swoP d a b hab hb)
      clear HO
      go_wp2_with fail
      go_end0
      exact ⟨rfl, dk, by rw [HEnd.out]; exact HSp.out, S1.out⟩
end Go.Proofs.Ytfeldgkjgfjeeaa
