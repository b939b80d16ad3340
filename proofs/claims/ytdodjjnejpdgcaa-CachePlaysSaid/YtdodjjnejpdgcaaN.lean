/- The reference's Get. -/
import Derived.Test.YtdodjjnejpdgcaaM
import Derived.BigRegion
import Derived.Deep.DeepCutAuto
namespace Go.Proofs.Ytdodjjnejpdgcaa
open Go.RowKit Go.Maps

theorem results_cell_tt {fn : Func} {p u v : Tmp} {ty : TypeId} (h : fn.results = #[.cell p ty, .tmp u, .tmp v]) (tmps : Array Value) {P : Program} (w : World) (g : Nat) (t : TypeId) (cs : Array Value) (fr : Nat × Nat) {fs : Array Field}
    (hp : tmps.getD p undef = .pointer (some ⟨g, 0, none⟩)) (hg : w.heap[g]? = some (.cells cs t fr))
    (hu : P.underlying ty = some (.struct fs)) (hi : (P.info? ty).map (·.size) = some cs.size) :
    (results fn tmps).run P w = .ok (.tuple #[.agg cs, tmps.getD u undef, tmps.getD v undef]) w := by
  have hp' : tmps[p]?.getD undef = .pointer (some ⟨g, 0, none⟩) := by simpa using hp
  simp [results, h, hp', asAddr, run_loadVar_row w g t ty cs fr _ hg hu rfl hi]

/-- the two boxes of a reference function: its copy of the cache, its result's cell -/
structure Boxes (w : World) (N : Nat) (most : Int) (lv : Value) (h m : Int) : Prop where
  b0 : w.heap[N]? = some (.cells #[.int .i64 most, lv, .int .i64 h, .int .i64 m] 43 (0, 0))
  b1 : w.heap[N + 1]? = some (.cells #[.int .i64 0, .slice none 0 0, .int .i64 0, .int .i64 0] 43 (0, 0))
theorem Head2.boxes {w w2 : World} {most : Int} {lv : Value} {h m : Int} (H : Head2 w w2 most lv h m) : Boxes w2 w.heap.size most lv h m := ⟨H.b0, H.b1⟩
theorem Boxes.ext {w w' : World} {N : Nat} {most : Int} {lv : Value} {h m : Int} (H : Boxes w N most lv h m) (he : Ext w w') : Boxes w' N most lv h m := ⟨he _ _ H.b0, he _ _ H.b1⟩
theorem Boxes.cells {w : World} {N : Nat} {most : Int} {lv : Value} {h m : Int} (H : Boxes w N most lv h m) :
    (w.cell? ⟨N, 0, none⟩ = some (.int .i64 most) ∧ w.cell? ⟨N, 1, none⟩ = some lv ∧ w.cell? ⟨N, 2, none⟩ = some (.int .i64 h) ∧ w.cell? ⟨N, 3, none⟩ = some (.int .i64 m)) ∧
    (w.cell? ⟨N + 1, 0, none⟩ = some (.int .i64 0) ∧ w.cell? ⟨N + 1, 1, none⟩ = some (.slice none 0 0) ∧ w.cell? ⟨N + 1, 2, none⟩ = some (.int .i64 0) ∧ w.cell? ⟨N + 1, 3, none⟩ = some (.int .i64 0)) :=
  ⟨⟨cell_of H.b0 rfl, cell_of H.b0 rfl, cell_of H.b0 rfl, cell_of H.b0 rfl⟩, ⟨cell_of H.b1 rfl, cell_of H.b1 rfl, cell_of H.b1 rfl, cell_of H.b1 rfl⟩⟩
theorem Boxes.free {w : World} {N : Nat} {most : Int} {lv : Value} {h m : Int} (H : Boxes w N most lv h m) :
    (w.frozen? ⟨N, 0, none⟩ = false ∧ w.frozen? ⟨N, 1, none⟩ = false ∧ w.frozen? ⟨N, 2, none⟩ = false ∧ w.frozen? ⟨N, 3, none⟩ = false) ∧
    (w.frozen? ⟨N + 1, 0, none⟩ = false ∧ w.frozen? ⟨N + 1, 1, none⟩ = false ∧ w.frozen? ⟨N + 1, 2, none⟩ = false ∧ w.frozen? ⟨N + 1, 3, none⟩ = false) :=
  ⟨⟨frozen_at H.b0 _, frozen_at H.b0 _, frozen_at H.b0 _, frozen_at H.b0 _⟩, ⟨frozen_at H.b1 _, frozen_at H.b1 _, frozen_at H.b1 _, frozen_at H.b1 _⟩⟩

def InBoxes (N : Nat) (a : Addr) : Prop := a.block = N ∨ a.block = N + 1
theorem Boxes.rat {ok : Nat → Prop} {w w' : World} {N : Nat} {most : Int} {lv : Value} {h m : Int} (H : Boxes w N most lv h m) {l : Value} {L : List Ent} (hR : RAt ok w l L) (hm : Mv (InBoxes N) w w') : RAt ok w' l L :=
  hR.mv hm (fun a ha => by
    rcases ha with e | e
    · exact ⟨_, _, by rw [e]; exact H.b0, by decide, by decide⟩
    · exact ⟨_, _, by rw [e]; exact H.b1, by decide, by decide⟩)
theorem ret_mv (w : World) (N : Nat) (x0 x1 x2 x3 : Value) : Mv (InBoxes N) w ((((w.setCell ⟨N + 1, 0, none⟩ x0).setCell ⟨N + 1, 1, none⟩ x1).setCell ⟨N + 1, 2, none⟩ x2).setCell ⟨N + 1, 3, none⟩ x3) :=
  (((Mv.set w _ _ _ (.inr rfl)).trans (Mv.set _ _ _ _ (.inr rfl))).trans (Mv.set _ _ _ _ (.inr rfl))).trans (Mv.set _ _ _ _ (.inr rfl))
theorem ret_blk {w : World} {N : Nat} {most : Int} {lv : Value} {h m : Int} (H : Boxes w N most lv h m) (x0 x1 x2 x3 : Value) :
    ((((w.setCell ⟨N + 1, 0, none⟩ x0).setCell ⟨N + 1, 1, none⟩ x1).setCell ⟨N + 1, 2, none⟩ x2).setCell ⟨N + 1, 3, none⟩ x3).heap[N + 1]? = some (.cells #[x0, x1, x2, x3] 43 (0, 0)) :=
  set_at (set_at (set_at (set_at H.b1 0 x0) 1 x1) 2 x2) 3 x3
theorem put_mv (w : World) (N : Nat) (x0 x1 x2 x3 : Value) : Mv (InBoxes N) w ((((w.setCell ⟨N, 0, none⟩ x0).setCell ⟨N, 1, none⟩ x1).setCell ⟨N, 2, none⟩ x2).setCell ⟨N, 3, none⟩ x3) :=
  (((Mv.set w _ _ _ (.inl rfl)).trans (Mv.set _ _ _ _ (.inl rfl))).trans (Mv.set _ _ _ _ (.inl rfl))).trans (Mv.set _ _ _ _ (.inl rfl))
theorem put_boxes {w : World} {N : Nat} {most : Int} {lv : Value} {h m : Int} (H : Boxes w N most lv h m) (most' : Int) (lv' : Value) (h' m' : Int) :
    Boxes ((((w.setCell ⟨N, 0, none⟩ (.int .i64 most')).setCell ⟨N, 1, none⟩ lv').setCell ⟨N, 2, none⟩ (.int .i64 h')).setCell ⟨N, 3, none⟩ (.int .i64 m')) N most' lv' h' m' :=
  ⟨set_at (set_at (set_at (set_at H.b0 0 _) 1 _) 2 _) 3 _, set_at_other (set_at_other (set_at_other (set_at_other H.b1 N 0 _ (by omega)) N 1 _ (by omega)) N 2 _ (by omega)) N 3 _ (by omega)⟩
theorem Boxes.list {w : World} {N : Nat} {most : Int} {lv : Value} {h m : Int} (H : Boxes w N most lv h m) (lv' : Value) : Boxes (w.setCell ⟨N, 1, none⟩ lv') N most lv' h m :=
  ⟨set_at H.b0 1 _, set_at_other H.b1 N 1 _ (by omega)⟩
theorem Boxes.hits {w : World} {N : Nat} {most : Int} {lv : Value} {h m : Int} (H : Boxes w N most lv h m) (h' : Int) : Boxes (w.setCell ⟨N, 2, none⟩ (.int .i64 h')) N most lv h' m :=
  ⟨set_at H.b0 2 _, set_at_other H.b1 N 2 _ (by omega)⟩
theorem Boxes.misses {w : World} {N : Nat} {most : Int} {lv : Value} {h m : Int} (H : Boxes w N most lv h m) (m' : Int) : Boxes (w.setCell ⟨N, 3, none⟩ (.int .i64 m')) N most lv h m' :=
  ⟨set_at H.b0 3 _, set_at_other H.b1 N 3 _ (by omega)⟩
theorem Mv.inb {N B : Nat} {w w' : World} (h : Mv (InBoxes N) w w') (hb : B ≤ N) : Below B w w' := h.below (fun a ha => by rcases ha with e | e <;> omega)

theorem Mv.bat {T : Addr → Prop} {ok : Nat → Prop} {w w' : World} {v : Value} {bs : List Int} (h : Mv T w w') (hb : BAt ok w v bs) (hT : ∀ a, T a → ∃ cs t, w.heap[a.block]? = some (.cells cs t (0, 0)) ∧ t ≠ 5 ∧ t ≠ 63) : BAt ok w' v bs := by
  refine hb.keep fun i cs t ht h1 h2 => ⟨h1, ?_⟩
  rw [h.block i]
  · exact h2
  · intro a ha e
    obtain ⟨cs', t', h3, h4, h5⟩ := hT a ha
    rw [e, h2] at h3
    injection h3 with h3
    injection h3 with _ h6 _
    subst h6
    rcases ht with rfl | rfl
    · exact h4 rfl
    · exact h5 rfl
theorem Boxes.bat {ok : Nat → Prop} {w w' : World} {N : Nat} {most : Int} {lv : Value} {h m : Int} (H : Boxes w N most lv h m) {v : Value} {bs : List Int} (hR : BAt ok w v bs) (hm : Mv (InBoxes N) w w') : BAt ok w' v bs :=
  hm.bat hR (fun a ha => by
    rcases ha with e | e
    · exact ⟨_, _, by rw [e]; exact H.b0, by decide, by decide⟩
    · exact ⟨_, _, by rw [e]; exact H.b1, by decide, by decide⟩)

theorem row_one (w : World) (base : Nat) (x y : Value) (hb : base ≤ w.heap.size) : (w.alloc (.cells #[x, y] 63)).ownsRow base 63 2 (.slice (some ⟨w.heap.size, 0, none⟩) 1 1) 1 [x, y] :=
  ⟨rfl, .inr ⟨w.heap.size, 1, #[x, y], rfl, hb, alloc_at w _, by omega, by decide, rfl, rfl⟩⟩

theorem Bvs.ext {ok : Nat → Prop} {w w' : World} {bvs : List Value} {L : List Ent} (h : Bvs ok w bvs L) (he : Ext w w') : Bvs ok w' bvs L := h.keep fun _ _ _ _ h1 h2 => ⟨h1, he _ _ h2⟩
theorem Bvs.cons' {ok : Nat → Prop} {w : World} {bv : Value} {bvs : List Value} {e : Ent} {L : List Ent} (h : Bvs ok w bvs L) (hb : BAt ok w bv e.bs) : Bvs ok w (bv :: bvs) (e :: L) := Bvs.cons hb h

def RMissPost (ok : Nat → Prop) (most h m : Int) (lv : Value) (L : List Ent) (w : World) (e : Ending) (w' : World) : Prop :=
  e = .returned (.tuple #[rv most lv h (m + 1), .slice none 0 0, .bool false]) ∧ RAt ok w' lv L ∧ Below w.heap.size w w'

set_option maxHeartbeats 800000 in
theorem rget_miss {ok : Nat → Prop} {w : World} {lv : Value} {L : List Ent} (hR : RAt ok w lv L) (hL : L.length ≤ 1000) (most h m k : Int) (hm : 0 ≤ m ∧ m ≤ 1000000) (hk : ∀ e ∈ L, e.key ≠ k) :
    Calls Try.prog 15 #[rv most lv h m, .int .i64 k] w (RMissPost ok most h m lv L w) := by
  have HP : Hid (∀ w', Below w.heap.size w w' → Calls Try.prog 23 #[rv most lv h m, .int .i64 k] w' fun e w2 => e = .returned (.int .i64 (-1)) ∧ Below w'.heap.size w' w2) := Lib.hid (fun w' hb => by
    rw [← place_miss (L := L) (k := k) (fun j hj => hk _ (List.getElem_mem hj))]
    exact place_any (hR.ext (Ext.of_below hb)) hL most h m k)
  have HR := Lib.hid hR
  obtain ⟨a, c, rfl, _⟩ := hR
  obtain ⟨hm0, hm1⟩ := hm
  clear hk
  unfold rv at *
  go_enter Try.func15, Try.ntmps15
  go_wp2_with fail
  have H2 := Lib.hid (head2_mk w most (.slice a L.length c) h m)
  generalize (w.alloc (.cells #[.int .i64 most, .slice a L.length c, .int .i64 h, .int .i64 m] 43)).alloc (.cells #[.int .i64 0, .slice none 0 0, .int .i64 0, .int .i64 0] 43) = w2 at *
  obtain ⟨⟨s0, s1, s2, s3⟩, ⟨t0, t1, t2, t3⟩⟩ := H2.out.boxes.cells
  go_wp2_with fail
  refine (HP.out w2 H2.out.below).mono ?_
  rintro e w3 ⟨rfl, hb3⟩
  have HX3 := Lib.hid (H2.out.boxes.ext (Ext.of_below hb3))
  have HB3 := Lib.hid (H2.out.below.trans (hb3.mono H2.out.below.size))
  obtain ⟨⟨s0, s1, s2, s3⟩, ⟨t0, t1, t2, t3⟩⟩ := HX3.out.cells
  obtain ⟨⟨f0, f1, f2, f3⟩, ⟨g0, g1, g2, g3⟩⟩ := HX3.out.free
  clear hb3
  go_wp2_with fail
  have hx := HX3.out.misses (m + 1)
  have hblk := ret_blk hx (.int .i64 most) (.slice a L.length c) (.int .i64 h) (.int .i64 (m + 1))
  have hmv := (Mv.set w3 ⟨w.heap.size, 3, none⟩ (.int .i64 (m + 1)) (InBoxes w.heap.size) (.inl rfl)).trans (ret_mv _ w.heap.size (.int .i64 most) (.slice a L.length c) (.int .i64 h) (.int .i64 (m + 1)))
  (try simp only [Exit.inBlock, Exit.then])
  refine bodyPost_ret (results_cell_tt rfl _ _ (w.heap.size + 1) 43 _ (0, 0) rfl hblk Try.underlying43 info43) rfl ?_
  exact ⟨rfl, HX3.out.rat (HR.out.ext (Ext.of_below HB3.out)) hmv, HB3.out.trans (hmv.inb (Nat.le_refl _))⟩

def RHitPost (ok : Nat → Prop) (most h m : Int) (L' : List Ent) (bs : List Int) (w : World) (e : Ending) (w' : World) : Prop :=
  ∃ lv' bv, e = .returned (.tuple #[rv most lv' (h + 1) m, bv, .bool true]) ∧ RAt ok w' lv' L' ∧ BAt ok w' bv bs ∧ Below w.heap.size w w'

set_option maxHeartbeats 1600000 in
theorem rget_hit {ok : Nat → Prop} {w : World} {lv : Value} {L : List Ent} (hR : RAt ok w lv L) (hok : ∀ i, w.heap.size ≤ i → ok i) (hL : L.length ≤ 1000) (most h m : Int) (hh : 0 ≤ h ∧ h ≤ 1000000) {i : Nat} (hi : i < L.length) (hk : ∀ j (hj : j < L.length), j < i → L[j].key ≠ L[i].key) :
    Calls Try.prog 15 #[rv most lv h m, .int .i64 L[i].key] w (RHitPost ok most h m (L[i] :: L.filter fun e => e.key != L[i].key) L[i].bs w) := by
  obtain ⟨i0, hi0, hz0, hz1, hz2⟩ := info_parts info63
  obtain ⟨x, hx⟩ : ∃ x, Hid (L[i] = x) := ⟨_, Lib.hid rfl⟩
  have HP : Hid (∀ w', Below w.heap.size w w' → Calls Try.prog 23 #[rv most lv h m, .int .i64 x.key] w' fun e w2 => e = .returned (.int .i64 (i : Int)) ∧ Below w'.heap.size w' w2) := Lib.hid (fun w' hb => by
    rw [← hx.out, ← place_hit hi rfl hk]
    exact place_any (hR.ext (Ext.of_below hb)) hL most h m _)
  have HD : Hid (∀ w', Below w.heap.size w w' → Calls Try.prog 17 #[rv most lv h m, .int .i64 x.key] w' (RDropPost ok most h m (L.filter fun e => e.key != x.key) w')) := Lib.hid (fun w' hb =>
    rdrop_any (hR.ext (Ext.of_below hb)) (fun j hj => hok j (by have := hb.size; omega)) hL most h m _)
  have HR := Lib.hid hR
  have HOK := Lib.hid hok
  obtain ⟨a, c, rfl, _, _, h2⟩ := hR
  have hfl : (L.filter fun e => e.key != x.key).length ≤ L.length := List.length_filter_le _ _
  obtain ⟨g, bv, rfl, HC, HBV⟩ : ∃ g bv, a = some ⟨g, 0, none⟩ ∧ Hid (∀ w', Below w.heap.size w w' → w'.cell? ⟨g, i * 2, none⟩ = some (.int .i64 x.key) ∧ w'.cell? ⟨g, i * 2 + 1, none⟩ = some bv) ∧ Hid (BAt ok w bv x.bs) := by
    rcases h2 with rfl | ⟨g, cs, rfl, _, h5, h6⟩
    · simp at hi
    · obtain ⟨h8, bv, h7, h9⟩ := h6 i hi
      rw [hx.out] at h8 h9
      exact ⟨g, bv, rfl, Lib.hid (fun w' hb => ⟨(Ext.of_below hb).cell (cell_of h5 h8), (Ext.of_below hb).cell (cell_of h5 h7)⟩), Lib.hid h9⟩
  obtain ⟨hh0, hh1⟩ := hh
  have hone := HBV.out.one
  obtain ⟨b, d, hbv⟩ : ∃ b d, bv = .slice (some ⟨b, 0, none⟩) x.bs.length d := by obtain ⟨b, d, _, h1, _⟩ := HBV.out; exact ⟨b, d, h1⟩
  subst hbv
  rw [hx.out]
  clear hk h2 hok
  unfold rv at *
  go_enter Try.func15, Try.ntmps15
  go_wp2_with fail
  have H2 := Lib.hid (head2_mk w most (.slice (some ⟨g, 0, none⟩) L.length c) h m)
  generalize (w.alloc (.cells #[.int .i64 most, .slice (some ⟨g, 0, none⟩) L.length c, .int .i64 h, .int .i64 m] 43)).alloc (.cells #[.int .i64 0, .slice none 0 0, .int .i64 0, .int .i64 0] 43) = w2 at *
  obtain ⟨⟨s0, s1, s2, s3⟩, ⟨t0, t1, t2, t3⟩⟩ := H2.out.boxes.cells
  go_wp2_with fail
  refine (HP.out w2 H2.out.below).mono ?_
  rintro e w3 ⟨rfl, hb3⟩
  have HX3 := Lib.hid (H2.out.boxes.ext (Ext.of_below hb3))
  have HB3 := Lib.hid (H2.out.below.trans (hb3.mono H2.out.below.size))
  obtain ⟨⟨s0, s1, s2, s3⟩, _⟩ := HX3.out.cells
  obtain ⟨q0, q1⟩ := HC.out w3 HB3.out
  have hs3 : w.heap.size + 2 ≤ w3.heap.size ∧ w3.heap.size ≠ w.heap.size ∧ w3.heap.size ≠ w.heap.size + 1 := by have := hb3.size; have := H2.out.size; omega
  clear hb3 t0 t1 t2 t3
  have HX4 : Hid (Boxes (w3.alloc (.cells #[.int .i64 x.key, .slice (some ⟨b, 0, none⟩) x.bs.length d] 63)) w.heap.size most (.slice (some ⟨g, 0, none⟩) L.length c) h m) := Lib.hid (HX3.out.ext (Ext.of_below ((Below.refl _ _).alloc (Nat.le_refl _) _)))
  obtain ⟨⟨k0, k1, k2, k3⟩, _⟩ := HX4.out.cells
  go_wp2_with fail
  have HB4 : Hid (Below w.heap.size w (w3.alloc (.cells #[.int .i64 x.key, .slice (some ⟨b, 0, none⟩) x.bs.length d] 63))) := Lib.hid (HB3.out.alloc HB3.out.size _)
  have HXB : Hid ((w3.alloc (.cells #[.int .i64 x.key, .slice (some ⟨b, 0, none⟩) x.bs.length d] 63)).heap[w3.heap.size]? = some (.cells #[.int .i64 x.key, .slice (some ⟨b, 0, none⟩) x.bs.length d] 63 (0, 0))) := Lib.hid (alloc_at _ _)
  clear k0 k1 k2 k3
  generalize w3.alloc (.cells #[.int .i64 x.key, .slice (some ⟨b, 0, none⟩) x.bs.length d] 63) = w4 at *
  obtain ⟨⟨s0, s1, s2, s3⟩, _⟩ := HX4.out.cells
  go_wp2_with fail
  refine (HD.out w4 HB4.out).mono ?_
  rintro e w5 ⟨lv5, rfl, hr5, hb5⟩
  have HX5 := Lib.hid (HX4.out.ext (Ext.of_below hb5))
  have HB5 := Lib.hid (HB4.out.trans (hb5.mono HB4.out.size))
  have HXB5 := Lib.hid ((Ext.of_below hb5) _ _ HXB.out)
  have HR5 := Lib.hid hr5
  clear hr5 hb5 s0 s1 s2 s3
  obtain ⟨⟨s0, s1, s2, s3⟩, _⟩ := HX5.out.cells
  obtain ⟨⟨f0, f1, f2, f3⟩, _⟩ := HX5.out.free
  obtain ⟨a5, c5, hlv5⟩ : ∃ a5 c5, lv5 = .slice a5 (L.filter fun e => e.key != x.key).length c5 := by obtain ⟨a5, c5, h1, _⟩ := HR5.out; exact ⟨a5, c5, h1⟩
  obtain ⟨n5, hn5⟩ : ∃ n5, Hid ((L.filter fun e => e.key != x.key).length = n5) := ⟨_, Lib.hid rfl⟩
  rw [hn5.out] at hlv5 hfl
  subst hlv5
  unfold rv
  go_upto_region 7 with (fail)
  have HX6 := Lib.hid (put_boxes HX5.out most (.slice a5 n5 c5) h m)
  have hmv := put_mv w5 w.heap.size (.int .i64 most) (.slice a5 n5 c5) (.int .i64 h) (.int .i64 m)
  have HB6 := Lib.hid (HB5.out.trans (hmv.inb (Nat.le_refl _)))
  have HR6 := Lib.hid (HX5.out.rat HR5.out hmv)
  have HXB6 := Lib.hid (show _ from (hmv.block w3.heap.size (fun a ha e => by rcases ha with h | h <;> omega)).trans HXB5.out)
  have HBV6 := Lib.hid (HX5.out.bat (HBV.out.ext (Ext.of_below HB5.out)) hmv)
  have hs6 := hmv.size
  have hs5 : w3.heap.size < w5.heap.size := (Array.getElem?_eq_some_iff.1 HXB5.out).1
  rw [← hs6] at hs5
  clear s0 s1 s2 s3 f0 f1 f2 f3 hmv hs6
  generalize (((w5.setCell ⟨w.heap.size, 0, none⟩ (.int .i64 most)).setCell ⟨w.heap.size, 1, none⟩ (.slice a5 n5 c5)).setCell ⟨w.heap.size, 2, none⟩ (.int .i64 h)).setCell ⟨w.heap.size, 3, none⟩ (.int .i64 m) = w6 at *
  obtain ⟨a6, c6, bvs, hlv, hnone, hbvs, hnews⟩ := HR6.out.news
  rw [hn5.out] at hlv
  injection hlv with e1 _ e3
  subst e1 e3
  have HX7 : Hid (Boxes (w6.alloc (.cells #[.int .i64 x.key, .slice (some ⟨b, 0, none⟩) x.bs.length d] 63)) w.heap.size most (.slice a5 n5 c5) h m) := Lib.hid (HX6.out.ext (Ext.of_below ((Below.refl _ _).alloc (Nat.le_refl _) _)))
  obtain ⟨⟨s0, s1, s2, s3⟩, _⟩ := HX7.out.cells
  have u0 : w6.cell? ⟨w3.heap.size, 0, none⟩ = some (.int .i64 x.key) := cell_of HXB6.out rfl
  have u1 : w6.cell? ⟨w3.heap.size, 1, none⟩ = some (.slice (some ⟨b, 0, none⟩) x.bs.length d) := cell_of HXB6.out rfl
  have hle6 := HB6.out.size
  have HNW : Hid (∀ bb, a5 = some bb → ∀ j u, (KRow bvs (L.filter fun e => e.key != x.key))[j]? = some u → (w6.alloc (.cells #[.int .i64 x.key, .slice (some ⟨b, 0, none⟩) x.bs.length d] 63)).cell? (bb.add j) = some u) :=
    Lib.hid (fun bb hbb j u hj => (Ext.of_below ((Below.refl w6.heap.size w6).alloc (Nat.le_refl _) _)).cell (hnews bb hbb j u hj))
  have HKL : Hid ((KRow bvs (L.filter fun e => e.key != x.key)).length = n5 * 2) := Lib.hid (by rw [krow_len hbvs.1, hn5.out])
  have HK1 := Lib.hid (krow_one' (L := L.filter fun e => e.key != x.key) hbvs.one)
  have HNO : Hid (a5 = none → n5 = 0 ∧ c5 = 0) := Lib.hid (fun e => ⟨by rw [← hn5.out, (hnone e).1]; rfl, (hnone e).2⟩)
  have HBVS := Lib.hid hbvs
  have hs6 : w.heap.size + 2 ≤ w6.heap.size := by omega
  clear hnone hbvs hnews
  go_wp2_with (at_builtin; refine wpList_append_src rfl _ _ 41 rfl (w.heap.size + 2) 63 i0 _ 2 32 Try.underlying41 hi0 hz0 hz1 hz2 rfl (by decide) _ _ _ rfl (row_one w6 (w.heap.size + 2) _ _ hs6) a5 n5 c5 _ rfl HNO.out HKL.out HNW.out HK1.out ?c3 ?c4 ?c5 ?_)
  case c3 => unfold maxLen; omega
  case c4 => omega
  case c5 => (try simp); omega
  intro v' w7 hown hgrow hne
  have HB67 : Hid (Below w6.heap.size w6 w7) := Lib.hid (((Below.refl _ _).alloc (Nat.le_refl _) _).grown hgrow (by simp) (fun k hk => by simp [Value.ownBlock] at hk; omega))
  obtain ⟨g7, c7, hv7⟩ : ∃ g7 c7, v' = .slice (some ⟨g7, 0, none⟩) (1 + n5) c7 := by
    rcases hown.2 with h1 | ⟨g7, c7, _, h1, _⟩
    · exact absurd h1.1 hne
    · exact ⟨g7, c7, h1⟩
  subst hv7
  have HO := Lib.hid hown
  clear hown hgrow hne s0 s1 s2 s3 u0 u1
  have HX7' := Lib.hid (HX6.out.ext (Ext.of_below HB67.out))
  obtain ⟨⟨s0, s1, s2, s3⟩, _⟩ := HX7'.out.cells
  obtain ⟨⟨f0, f1, f2, f3⟩, _⟩ := HX7'.out.free
  go_upto_region 9 with (fail)
  have HX9 := Lib.hid ((HX7'.out.list (.slice (some ⟨g7, 0, none⟩) (1 + n5) c7)).hits (h + 1))
  have hmv9 := (Mv.set w7 ⟨w.heap.size, 1, none⟩ (.slice (some ⟨g7, 0, none⟩) (1 + n5) c7) (InBoxes w.heap.size) (.inl rfl)).trans (Mv.set _ ⟨w.heap.size, 2, none⟩ (.int .i64 (h + 1)) (InBoxes w.heap.size) (.inl rfl))
  have HB9 := Lib.hid ((HB6.out.trans (HB67.out.mono HB6.out.size)).trans (hmv9.inb (Nat.le_refl _)))
  have HXB9 := Lib.hid (show _ from (hmv9.block w3.heap.size (fun a ha e => by rcases ha with h | h <;> omega)).trans (Ext.of_below HB67.out _ _ HXB6.out))
  have HBV9 := Lib.hid (HX7'.out.bat (HBV6.out.ext (Ext.of_below HB67.out)) hmv9)
  have HR9 : Hid (RAt ok _ (.slice (some ⟨g7, 0, none⟩) (1 + n5) c7) (x :: L.filter fun e => e.key != x.key)) := Lib.hid (HX7'.out.rat (RAt.of_row (w := w7) (B := w.heap.size + 2) (bvs := .slice (some ⟨b, 0, none⟩) x.bs.length d :: bvs) (by
      rw [List.length_cons, hn5.out, Nat.add_comm n5 1]; exact HO.out) (((HBVS.out.ext (Ext.of_below HB67.out))).cons' (HBV6.out.ext (Ext.of_below HB67.out))) (fun j hj => HOK.out j (by omega))) hmv9)
  clear s0 s1 s2 s3 f0 f1 f2 f3 hmv9
  generalize (w7.setCell ⟨w.heap.size, 1, none⟩ (.slice (some ⟨g7, 0, none⟩) (1 + n5) c7)).setCell ⟨w.heap.size, 2, none⟩ (.int .i64 (h + 1)) = w9 at *
  obtain ⟨⟨s0, s1, s2, s3⟩, ⟨t0, t1, t2, t3⟩⟩ := HX9.out.cells
  obtain ⟨_, ⟨g0, g1, g2, g3⟩⟩ := HX9.out.free
  have u0 : w9.cell? ⟨w3.heap.size, 0, none⟩ = some (.int .i64 x.key) := cell_of HXB9.out rfl
  have u1 : w9.cell? ⟨w3.heap.size, 1, none⟩ = some (.slice (some ⟨b, 0, none⟩) x.bs.length d) := cell_of HXB9.out rfl
  go_wp2_with fail
  go_region
  go_wp2_with fail
  have hblk := ret_blk HX9.out (.int .i64 most) (.slice (some ⟨g7, 0, none⟩) (1 + n5) c7) (.int .i64 (h + 1)) (.int .i64 m)
  have hmv := (ret_mv w9 w.heap.size (.int .i64 most) (.slice (some ⟨g7, 0, none⟩) (1 + n5) c7) (.int .i64 (h + 1)) (.int .i64 m)).drew
  (try simp only [Exit.inBlock, Exit.then])
  refine bodyPost_ret (results_cell_tt rfl _ _ (w.heap.size + 1) 43 _ (0, 0) rfl hblk Try.underlying43 info43) rfl ?_
  exact ⟨_, _, rfl, HX9.out.rat HR9.out hmv, HX9.out.bat HBV9.out hmv, HB9.out.trans (hmv.inb (Nat.le_refl _))⟩
end Go.Proofs.Ytdodjjnejpdgcaa
