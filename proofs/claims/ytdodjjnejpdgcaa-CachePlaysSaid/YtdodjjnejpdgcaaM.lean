/- The reference's place, Bytes, Drop. -/
import Derived.Test.YtdodjjnejpdgcaaL
namespace Go.Proofs.Ytdodjjnejpdgcaa
open Go.RowKit Go.Maps

def rv (most : Int) (lv : Value) (h m : Int) : Value := .agg #[.int .i64 most, lv, .int .i64 h, .int .i64 m]
def placeOf (L : List Ent) (k : Int) : Int := match L.findIdx? (fun e => e.key == k) with | some i => i | none => -1

theorem place_hit {L : List Ent} {k : Int} {i : Nat} (h : i < L.length) (hk : L[i].key = k) (hm : ∀ j (hj : j < L.length), j < i → L[j].key ≠ k) : placeOf L k = i := by
  unfold placeOf
  rw [List.findIdx?_eq_some_iff_getElem.2 ⟨h, by simp [hk], fun j hj => by simpa using hm j (by omega) hj⟩]
theorem place_miss {L : List Ent} {k : Int} (hm : ∀ j (hj : j < L.length), L[j].key ≠ k) : placeOf L k = -1 := by
  unfold placeOf
  rw [List.findIdx?_eq_none_iff.2]
  intro x hx
  obtain ⟨j, hj, rfl⟩ := List.getElem_of_mem hx
  simpa using hm j hj

set_option maxHeartbeats 400000 in
theorem place_any {ok : Nat → Prop} {w : World} {lv : Value} {L : List Ent} (hR : RAt ok w lv L) (hL : L.length ≤ 1000) (most h m k : Int) :
    Calls Try.prog 23 #[rv most lv h m, .int .i64 k] w fun e w' => e = .returned (.int .i64 (placeOf L k)) ∧ Below w.heap.size w w' := by
  obtain ⟨a, c, rfl, hc, hn, h2⟩ := hR
  have HN := Lib.hid (show ∀ i (_ : i < L.length), ∃ g, a = some ⟨g, 0, none⟩ ∧ ∀ o, (w.alloc o).cell? ⟨g, i * 2, none⟩ = some (.int .i64 L[i].key) from by
    intro i hi
    rcases h2 with rfl | ⟨g, cs, rfl, _, h5, h6⟩
    · simp at hi
    · exact ⟨g, rfl, fun o => (Ext.of_below ((Below.refl w.heap.size w).alloc (Nat.le_refl _) _)).cell (cell_of h5 (h6 i hi).1)⟩)
  clear h2 hn
  unfold rv
  go_enter Try.func23, Try.ntmps23
  go_wp2_with fail
  go_loop [5] (fun i => ∃ j : Nat, j ≤ L.length ∧ i = .int .i64 j ∧ Hid (∀ q (hq : q < L.length), q < j → L[q].key ≠ k)) (fun i => L.length - (intOf i).toNat)
  case atStart => exact ⟨0, Nat.zero_le _, rfl, Lib.hid (fun q _ h => by omega)⟩
  case round =>
    obtain ⟨j, hj, rfl, HI⟩ := hrel
    by_cases hlt : j < L.length
    · obtain ⟨g, rfl, hcell⟩ := HN.out j hlt
      have q0 := hcell (.cells #[.int .i64 most, .slice (some ⟨g, 0, none⟩) L.length c, .int .i64 h, .int .i64 m] 43)
      have HH : Hid (L[j].key = k → placeOf L k = j) := Lib.hid (fun e => place_hit hlt e HI.out)
      have HM : Hid (L[j].key ≠ k → ∀ q (hq : q < L.length), q < j + 1 → L[q].key ≠ k) := Lib.hid (fun e q hq h1 => by
        by_cases e2 : q = j
        · subst e2; exact e
        · exact HI.out q hq (by omega))
      clear hcell
      generalize L[j].key = kk at *
      by_cases hk : kk = k
      · have hb : (kk == k) = true := beq_iff_eq.2 hk
        have HV := Lib.hid (HH.out hk)
        clear hk HH HM
        go_wp2_with fail
        go_ret
        exact ⟨by rw [HV.out]; rfl, (Below.refl _ _).alloc (Nat.le_refl _) _⟩
      · have hb : (kk == k) = false := beq_eq_false_iff_ne.2 hk
        have HV := Lib.hid (HM.out hk)
        clear hk HH HM
        go_wp2_with fail
        go_round
        case rel => exact ⟨j + 1, by omega, by go_num, HV⟩
        case measure => simp [intOf]; omega
    · obtain rfl : j = L.length := by omega
      have HV := Lib.hid (place_miss (fun q hq => HI.out q hq hq))
      go_wp2_with fail
      go_ret
      exact ⟨by rw [HV.out]; rfl, (Below.refl _ _).alloc (Nat.le_refl _) _⟩

theorem total_take_succ {L : List Ent} {j : Nat} (h : j < L.length) : total (L.take (j + 1)) = total (L.take j) + (L[j].bs.length : Int) := by
  rw [List.take_succ_eq_append_getElem h, total_app]; simp [total]
theorem total_take_le {L : List Ent} (j : Nat) (h : total L ≤ 1000000000) : 0 ≤ total (L.take j) ∧ total (L.take j) ≤ 1000000000 := by
  refine ⟨total_nonneg _, ?_⟩
  have := total_app (L.take j) (L.drop j)
  rw [List.take_append_drop] at this
  have h2 := total_nonneg (L.drop j)
  omega

set_option maxHeartbeats 400000 in
theorem rbytes_any {ok : Nat → Prop} {w : World} {lv : Value} {L : List Ent} (hR : RAt ok w lv L) (hL : L.length ≤ 1000) (hT : total L ≤ 1000000000) (most h m : Int) :
    Calls Try.prog 24 #[rv most lv h m] w fun e w' => e = .returned (.int .i64 (total L)) ∧ w' = w.alloc (.cells #[.int .i64 most, lv, .int .i64 h, .int .i64 m] 43) := by
  obtain ⟨a, c, rfl, hc, hn, h2⟩ := hR
  have HN := Lib.hid (show ∀ i (_ : i < L.length), ∃ g, a = some ⟨g, 0, none⟩ ∧ ∃ b d, ∀ o, (w.alloc o).cell? ⟨g, i * 2 + 1, none⟩ = some (.slice (some ⟨b, 0, none⟩) L[i].bs.length d) from by
    intro i hi
    rcases h2 with rfl | ⟨g, cs, rfl, _, h5, h6⟩
    · simp at hi
    · obtain ⟨_, bv, h7, b, d, cs', rfl, _⟩ := h6 i hi
      exact ⟨g, rfl, b, d, fun o => (Ext.of_below ((Below.refl w.heap.size w).alloc (Nat.le_refl _) _)).cell (cell_of h5 h7)⟩)
  have HT := Lib.hid hT
  clear h2 hn hT
  unfold rv
  go_enter Try.func24, Try.ntmps24
  go_wp2_with fail
  go_loop [3, 4] (fun s i => ∃ j : Nat, j ≤ L.length ∧ i = .int .i64 j ∧ s = .int .i64 (total (L.take j))) (fun _ i => L.length - (intOf i).toNat)
  case atStart => exact ⟨0, Nat.zero_le _, rfl, rfl⟩
  case round =>
    obtain ⟨j, hj, rfl, rfl⟩ := hrel
    by_cases hlt : j < L.length
    · obtain ⟨g, rfl, b, d, hcell⟩ := HN.out j hlt
      have q0 := hcell (.cells #[.int .i64 most, .slice (some ⟨g, 0, none⟩) L.length c, .int .i64 h, .int .i64 m] 43)
      have HS := Lib.hid (total_take_succ hlt)
      obtain ⟨b1, b2⟩ := total_take_le j HT.out
      have b3 := (total_take_le (j + 1) HT.out).2
      rw [HS.out] at b3
      clear hcell
      generalize L[j].bs.length = n at *
      obtain ⟨t, ht⟩ : ∃ t, Hid (total (L.take j) = t) := ⟨_, Lib.hid rfl⟩
      rw [ht.out] at b1 b2 b3 HS ⊢
      go_wp2_with fail
      go_round
      case rel => exact ⟨j + 1, by omega, by go_num, by rw [HS.out]⟩
      case measure => simp [intOf]; omega
    · obtain rfl : j = L.length := by omega
      go_wp2_with fail
      go_ret
      exact ⟨rfl, rfl⟩

theorem RAt.mv {ok : Nat → Prop} {T : Addr → Prop} {w w' : World} {lv : Value} {L : List Ent} (h : RAt ok w lv L) (hm : Mv T w w') (hT : ∀ a, T a → ∃ cs t, w.heap[a.block]? = some (.cells cs t (0, 0)) ∧ t ≠ 5 ∧ t ≠ 63) : RAt ok w' lv L := by
  refine h.keep fun i cs t ht h1 h2 => ⟨h1, ?_⟩
  rw [hm.block i]
  · exact h2
  · intro a ha e
    obtain ⟨cs', t', h3, h4, h5⟩ := hT a ha
    rw [e, h2] at h3
    injection h3 with h3
    injection h3 with _ h6 _
    subst h6
    rcases ht with rfl | rfl
    · exact h4 rfl
    · exact h5 rfl

/-- the world behind a reference function's head: its copy of the cache, and its result's cell -/
structure Head2 (w w2 : World) (most : Int) (lv : Value) (h m : Int) : Prop where
  size : w2.heap.size = w.heap.size + 2
  below : Below w.heap.size w w2
  b0 : w2.heap[w.heap.size]? = some (.cells #[.int .i64 most, lv, .int .i64 h, .int .i64 m] 43 (0, 0))
  b1 : w2.heap[w.heap.size + 1]? = some (.cells #[.int .i64 0, .slice none 0 0, .int .i64 0, .int .i64 0] 43 (0, 0))
theorem head2_mk (w : World) (most : Int) (lv : Value) (h m : Int) : Head2 w ((w.alloc (.cells #[.int .i64 most, lv, .int .i64 h, .int .i64 m] 43)).alloc (.cells #[.int .i64 0, .slice none 0 0, .int .i64 0, .int .i64 0] 43)) most lv h m := by
  refine ⟨by simp, ((Below.refl _ _).alloc (Nat.le_refl _) _).alloc (by simp) _, ?_, ?_⟩
  · exact Ext.of_below ((Below.refl (w.alloc (.cells #[.int .i64 most, lv, .int .i64 h, .int .i64 m] 43)).heap.size _).alloc (Nat.le_refl _) _) _ _ (alloc_at _ _)
  · have := alloc_at (w.alloc (.cells #[.int .i64 most, lv, .int .i64 h, .int .i64 m] 43)) (.cells #[.int .i64 0, .slice none 0 0, .int .i64 0, .int .i64 0] 43)
    simpa using this

def RDropPost (ok : Nat → Prop) (most h m : Int) (L' : List Ent) (w : World) (e : Ending) (w' : World) : Prop :=
  ∃ lv', e = .returned (rv most lv' h m) ∧ RAt ok w' lv' L' ∧ Below w.heap.size w w'

def fl (L : List Ent) (k : Int) (j : Nat) : List Ent := (L.take j).filter fun e => e.key != k
theorem fl_keep {L : List Ent} {k : Int} {j : Nat} (h : j < L.length) (hk : L[j].key ≠ k) : fl L k (j + 1) = fl L k j ++ [L[j]] := by
  unfold fl; rw [List.take_succ_eq_append_getElem h, List.filter_append]; have hb : (L[j].key != k) = true := by simpa using hk
  simp [List.filter, hb]
theorem fl_skip {L : List Ent} {k : Int} {j : Nat} (h : j < L.length) (hk : L[j].key = k) : fl L k (j + 1) = fl L k j := by
  unfold fl; rw [List.take_succ_eq_append_getElem h, List.filter_append]; have hb : (L[j].key != k) = false := by simpa using hk
  simp [List.filter, hb]
theorem fl_len (L : List Ent) (k : Int) (j : Nat) : (fl L k j).length ≤ j := by
  unfold fl; refine Nat.le_trans (List.length_filter_le _ _) ?_; rw [List.length_take]; omega

theorem fin_mv (w : World) (N : Nat) (v x0 x1 x2 x3 : Value) : Mv (fun a => a.block = N ∨ a.block = N + 1) w (((((w.setCell ⟨N, 1, none⟩ v).setCell ⟨N + 1, 0, none⟩ x0).setCell ⟨N + 1, 1, none⟩ x1).setCell ⟨N + 1, 2, none⟩ x2).setCell ⟨N + 1, 3, none⟩ x3) :=
  ((((Mv.set w _ _ _ (.inl rfl)).trans (Mv.set _ _ _ _ (.inr rfl))).trans (Mv.set _ _ _ _ (.inr rfl))).trans (Mv.set _ _ _ _ (.inr rfl))).trans (Mv.set _ _ _ _ (.inr rfl))

theorem set_at {w : World} {r : Nat} {cs : Array Value} {t : TypeId} {mk : Nat × Nat} (h : w.heap[r]? = some (.cells cs t mk)) (o : Nat) (v : Value) : (w.setCell ⟨r, o, none⟩ v).heap[r]? = some (.cells (cs.setIfInBounds o v) t mk) := by
  simp [World.setCell, Array.getElem?_modify, h]
theorem set_at_other {w : World} {r : Nat} {o : Obj} (h : w.heap[r]? = some o) (r' off : Nat) (v : Value) (hne : r' ≠ r) : (w.setCell ⟨r', off, none⟩ v).heap[r]? = some o := by
  rw [Below.heap_setCell w _ v r (fun e => hne e.symm)]; exact h
theorem info43 : (Try.prog.info? 43).map (·.size) = some 4 := by kernel_rfl

set_option maxHeartbeats 800000 in
theorem rdrop_any {ok : Nat → Prop} {w : World} {lv : Value} {L : List Ent} (hR : RAt ok w lv L) (hok : ∀ i, w.heap.size ≤ i → ok i) (hL : L.length ≤ 1000) (most h m k : Int) :
    Calls Try.prog 17 #[rv most lv h m, .int .i64 k] w (RDropPost ok most h m (L.filter fun e => e.key != k) w) := by
  obtain ⟨a, c, rfl, hc, hn, h2⟩ := hR
  obtain ⟨i0, hi, hz0, hz1, hz2⟩ := info_parts info63
  have HN : Hid (∀ i (_ : i < L.length), ∃ g, a = some ⟨g, 0, none⟩ ∧ ∃ bv, BAt ok w bv L[i].bs ∧ ∀ w', Below w.heap.size w w' → w'.cell? ⟨g, i * 2, none⟩ = some (.int .i64 L[i].key) ∧ w'.cell? ⟨g, i * 2 + 1, none⟩ = some bv) := Lib.hid (by
    intro i hi
    rcases h2 with rfl | ⟨g, cs, rfl, _, h5, h6⟩
    · simp at hi
    · obtain ⟨h8, bv, h7, h9⟩ := h6 i hi
      exact ⟨g, rfl, bv, h9, fun w' hb => ⟨(Ext.of_below hb).cell (cell_of h5 h8), (Ext.of_below hb).cell (cell_of h5 h7)⟩⟩)
  have HOK := Lib.hid hok
  clear h2 hn hok
  unfold rv
  go_enter Try.func17, Try.ntmps17
  go_wp2_with fail
  have H2 := Lib.hid (head2_mk w most (.slice a L.length c) h m)
  generalize (w.alloc (.cells #[.int .i64 most, .slice a L.length c, .int .i64 h, .int .i64 m] 43)).alloc (.cells #[.int .i64 0, .slice none 0 0, .int .i64 0, .int .i64 0] 43) = w2 at *
  go_loopg [5, 6] L.length (fun g v i wr => ∃ j : Nat, j + g = L.length ∧ i = .int .i64 j ∧ Hid (∃ bvs, wr.ownsRow (w.heap.size + 2) 63 2 v (fl L k j).length (KRow bvs (fl L k j)) ∧ Bvs ok w bvs (fl L k j) ∧ Below (w.heap.size + 2) w2 wr))
  case atStart => exact ⟨0, by omega, rfl, Lib.hid ⟨[], World.ownsRow_nil _ _ _ _, Bvs.nil _ _, Below.refl _ _⟩⟩
  case round =>
    obtain ⟨j, hj, rfl, HI⟩ := hrel
    obtain ⟨bvs, hown, hbv, hb⟩ := HI.out
    have HB := Lib.hid hb
    have HBV := Lib.hid hbv
    have hbw : Below w.heap.size w wr := H2.out.below.trans (hb.mono (by omega))
    have HBW := Lib.hid hbw
    have p0 : wr.cell? ⟨w.heap.size, 1, none⟩ = some (.slice a L.length c) := (hb.cell (by show w.heap.size < _; omega)).trans (cell_of H2.out.b0 rfl)
    have hrows : wr.heap.size ≥ w.heap.size + 2 := by have := hb.size; have := H2.out.size; omega
    clear HI hb hbv
    by_cases hlt : j < L.length
    · obtain ⟨g', rfl, bv, hba, hcell⟩ := HN.out j hlt
      obtain ⟨q0, q1⟩ := hcell wr hbw
      have HBA := Lib.hid hba
      have hone := hba.one
      have HF1 := Lib.hid (fun hk => fl_keep (k := k) hlt hk)
      have HF2 := Lib.hid (fun hk => fl_skip (k := k) hlt hk)
      have hfl := fl_len L k j
      obtain ⟨x, hx⟩ : ∃ x, Hid (L[j] = x) := ⟨_, Lib.hid rfl⟩
      rw [hx.out] at q0 HF1 HF2 HBA
      clear hcell hba
      by_cases hk : x.key = k
      · have hkb : (x.key == k) = true := beq_iff_eq.2 hk
        have HV := Lib.hid (HF2.out hk)
        have HO := Lib.hid hown
        clear hk HF1 HF2 hown
        go_wp2_with fail
        go_roundg (L.length - (j + 1))
        case measure => omega
        case rel => exact ⟨j + 1, by omega, by go_num, Lib.hid ⟨bvs, by rw [HV.out]; exact HO.out, by rw [HV.out]; exact HBV.out, HB.out⟩⟩
      · have hkb : (x.key == k) = false := beq_eq_false_iff_ne.2 hk
        have HV := Lib.hid (HF1.out hk)
        have HNW := Lib.hid (cell_two_new wr (.int .i64 x.key) bv 63)
        have H1 := Lib.hid (show ∀ u ∈ [Value.int .i64 x.key, bv], u.oneCell' = true from by intro u hu; simp at hu; rcases hu with rfl | rfl; rfl; exact hone)
        clear hk HF1 HF2
        go_wp2_with (at_builtin; refine wpList_append_own _ rfl _ _ 41 rfl (w.heap.size + 2) 63 i0 _ 2 32 Try.underlying41 hi hz0 hz1 hz2 rfl (by decide) _ _ _ rfl (hown.alloc _) ⟨wr.heap.size, 0, none⟩ 1 1 [.int .i64 x.key, bv] rfl rfl HNW.out H1.out ?c3 ?c4 ?c5 ?_)
        case c3 => unfold maxLen; omega
        case c4 => omega
        case c5 => simp; omega
        intro v' w1 hown' hgrow _
        have HBn : Hid (Below (w.heap.size + 2) w2 w1) := Lib.hid ((HB.out.alloc hrows _).grown hgrow (by simp; omega) (fun q hq => (hown.lt q hq).1))
        have HO := Lib.hid hown'
        clear hown' hgrow hown
        go_wp2_with fail
        go_roundg (L.length - (j + 1))
        case measure => omega
        case rel => exact ⟨j + 1, by omega, by go_num, Lib.hid ⟨bvs ++ [bv], by rw [HV.out, krow_snoc HBV.out.1, List.length_append]; exact HO.out, by rw [HV.out]; exact HBV.out.snoc HBA.out, HBn.out⟩⟩
    · obtain rfl : j = L.length := by omega
      have e1 : fl L k L.length = L.filter fun e => e.key != k := by unfold fl; rw [List.take_length]
      rw [e1] at hown HBV
      have HR := Lib.hid (RAt.of_row (ok := ok) hown (HBV.out.keep fun i cs t _ h1 h2 => ⟨h1, Ext.of_below HBW.out _ _ h2⟩) (fun i hi => HOK.out i (by omega)))
      have r0 : wr.heap[w.heap.size]? = some (.cells #[.int .i64 most, .slice a L.length c, .int .i64 h, .int .i64 m] 43 (0, 0)) := (HB.out.block _ (by omega)).trans H2.out.b0
      have r1 : wr.heap[w.heap.size + 1]? = some (.cells #[.int .i64 0, .slice none 0 0, .int .i64 0, .int .i64 0] 43 (0, 0)) := (HB.out.block _ (by omega)).trans H2.out.b1
      have HR0 := Lib.hid r0
      have HR1 := Lib.hid r1
      have f0 := frozen_at r0 1
      have g0 := frozen_at r1 0
      have g1 := frozen_at r1 1
      have g2 := frozen_at r1 2
      have g3 := frozen_at r1 3
      have s0 : wr.cell? ⟨w.heap.size, 0, none⟩ = some (.int .i64 most) := cell_of r0 rfl
      have s2 : wr.cell? ⟨w.heap.size, 2, none⟩ = some (.int .i64 h) := cell_of r0 rfl
      have s3 : wr.cell? ⟨w.heap.size, 3, none⟩ = some (.int .i64 m) := cell_of r0 rfl
      have t0 : wr.cell? ⟨w.heap.size + 1, 0, none⟩ = some (.int .i64 0) := cell_of r1 rfl
      have t1 : wr.cell? ⟨w.heap.size + 1, 1, none⟩ = some (.slice none 0 0) := cell_of r1 rfl
      have t2 : wr.cell? ⟨w.heap.size + 1, 2, none⟩ = some (.int .i64 0) := cell_of r1 rfl
      have t3 : wr.cell? ⟨w.heap.size + 1, 3, none⟩ = some (.int .i64 0) := cell_of r1 rfl
      obtain ⟨a9, c9, hv, _⟩ := HR.out
      subst hv
      clear hown r0 r1
      go_wp2_with fail
      have hblk := set_at (set_at (set_at (set_at (set_at_other HR1.out w.heap.size 1 (.slice a9 (List.filter (fun e => e.key != k) L).length c9) (by omega)) 0 (.int .i64 most)) 1 (.slice a9 (List.filter (fun e => e.key != k) L).length c9)) 2 (.int .i64 h)) 3 (.int .i64 m)
      (try simp only [Exit.inBlock, Exit.then])
      refine bodyPost_ret (results_cell_row rfl _ _ (w.heap.size + 1) 43 _ (0, 0) _ rfl hblk Try.underlying43 rfl info43) rfl ?_
      refine ⟨_, rfl, HR.out.mv (fin_mv wr w.heap.size _ _ _ _ _) (fun a ha => ?_), HBW.out.trans ((fin_mv wr w.heap.size _ _ _ _ _).below (fun a ha => by rcases ha with h | h <;> omega))⟩
      rcases ha with h | h
      · exact ⟨_, _, by rw [h]; exact HR0.out, by decide, by decide⟩
      · exact ⟨_, _, by rw [h]; exact HR1.out, by decide, by decide⟩
end Go.Proofs.Ytdodjjnejpdgcaa
