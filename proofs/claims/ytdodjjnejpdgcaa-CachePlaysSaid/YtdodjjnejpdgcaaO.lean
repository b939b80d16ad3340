/- The reference's Put. -/
import Derived.Test.YtdodjjnejpdgcaaN
import Derived.Deep.RegionLaw
import Derived.Deep.RegionHeld3
namespace Go.Proofs.Ytdodjjnejpdgcaa
open Go.RowKit Go.Maps

/-- 'append' onto a row that the call owns and that is not nil, of a slice that may be nil, as a step of a region that draws -/
theorem step_append_onto {P : Program} {w : World} {ops : Array Oper} {o : Oper} {a : Act} {K : Act → World → Prop} {Q : Exit → Act → World → Prop} {E : Prop} (hgd : o.guard = none) (s x : Operand) (t : TypeId)
    (ho : o.op = .call { callee := .builtin .append, args := #[s, x], argTypes := #[t, t] })
    (base : Nat) (e : TypeId) (i : TypeInfo) (z : Value) (size bytes : Nat) (ht : P.underlying t = some (.slice e)) (hi : P.info? e = some i) (hz : i.zero = some z)
    (hsize : i.size = size) (hby : i.bytes = bytes) (hzs : z.cells.size = size) (hsz : 0 < size)
    (g0 cap0 n : Nat) (xs : List Value) (hs : a.eval s = .slice (some ⟨g0, 0, none⟩) n cap0) (hown : w.ownsRow base e size (.slice (some ⟨g0, 0, none⟩) n cap0) n xs)
    (ad : Option Addr) (m c : Nat) (news : List Value) (hx : a.eval x = .slice ad m c) (hnone : ad = none → m = 0 ∧ c = 0) (hl : news.length = m * size) (hnews : ∀ b, ad = some b → ∀ j u, news[j]? = some u → w.cell? (b.add j) = some u) (h1 : ∀ u ∈ news, u.oneCell' = true)
    (h63 : n + m ≤ maxLen) (hbytes : (n + m) * bytes ≤ 140737488355328) (hbase : base ≤ w.heap.size) {B : Nat} {w0 : World} (hw0 : Below B w0 w) (hg0 : B ≤ g0) (hB : B ≤ w.heap.size)
    (h : ∀ g' cap' w', w'.ownsRow base e size (.slice (some ⟨g', 0, none⟩) (n + m) cap') (n + m) (xs ++ news) → Below B w0 w' → K (a.put o.dst (.slice (some ⟨g', 0, none⟩) (n + m) cap')) w') :
    if Region.wanted o (yielded ops a.tmps) = true then Oper.wp P o a w K Q else E := by
  have hw : Region.wanted o (yielded ops a.tmps) = true := by simp [Region.wanted, hgd]
  rw [if_pos hw]
  have main : ∃ g' cap' w', (Builtin.append_ #[t, t] o.type #[.slice (some ⟨g0, 0, none⟩) n cap0, .slice ad m c]).run P w = .ok (.slice (some ⟨g', 0, none⟩) (n + m) cap') w' ∧ w'.ownsRow base e size (.slice (some ⟨g', 0, none⟩) (n + m) cap') (n + m) (xs ++ news) ∧ Below B w0 w' := by
    cases ad with
    | some b =>
      obtain ⟨v', w', hr, h2, h3, h4⟩ := run_append_own (P := P) w base t o.type e i z size bytes ht hi hz hsize hby hzs hsz _ n xs hown b m c news hl (hnews b rfl) h1 h63 hbytes hbase
      rcases h2.2 with ⟨h5, _⟩ | ⟨g, cap, cur, hv, _⟩
      · have := (h4.1 h5).1; cases this
      · subst hv
        exact ⟨g, cap, w', hr, h2, hw0.grown h3 hB (fun k hk => by simp [Value.ownBlock] at hk; omega)⟩
    | none =>
      obtain ⟨rfl, rfl⟩ := hnone rfl
      obtain rfl : news = [] := List.eq_nil_of_length_eq_zero (by simpa using hl)
      exact ⟨g0, cap0, w, run_append_owned_none (P := P) (w := w) base t o.type e i size ht hi _ n xs hown, by simpa using hown, hw0⟩
  obtain ⟨g', cap', w', hr, h2, h3⟩ := main
  unfold Oper.wp
  simp [execOp, ho, resolve, invoke, builtin, hs, hx, hr, Result.andThen]
  exact h g' cap' w' h2 h3

theorem BytesIn.up {B B' : Nat} {w : World} {a : Option Addr} {l c : Nat} {bs : List Int} (h : BytesIn B w a l c bs) (hb : B ≤ B') : BytesIn B' w a l c bs := by
  refine ⟨h.1, ?_⟩
  rcases h.2 with h1 | ⟨x, h1, h2 | ⟨b, off, h3, h4, h5⟩⟩
  · exact .inl h1
  · exact .inr ⟨x, h1, .inl h2⟩
  · exact .inr ⟨x, h1, .inr ⟨b, off, h3, by omega, h5⟩⟩
theorem BytesIn.none {B : Nat} {w : World} {a : Option Addr} {l c : Nat} {bs : List Int} (h : BytesIn B w a l c bs) : a = none → l = 0 ∧ c = 0 := by
  rcases h.2 with h1 | ⟨x, h1, _⟩
  · exact fun _ => h1.2
  · intro e; rw [e] at h1; cases h1
theorem BytesIn.news {B : Nat} {w : World} {a : Option Addr} {l c : Nat} {bs : List Int} (h : BytesIn B w a l c bs) : ∀ b, a = some b → ∀ j u, (bs.map (Value.int .u8))[j]? = some u → w.cell? (b.add j) = some u := by
  intro b hb
  have hn := h.1
  rcases h.2 with h1 | ⟨x, h1, h2 | ⟨b', off, h3, _, h5⟩⟩
  · rw [h1.1] at hb; cases hb
  · obtain rfl : bs = [] := List.eq_nil_of_length_eq_zero (by omega)
    intro j u hj; simp at hj
  · rw [h1] at hb; injection hb with hb; subst hb
    exact BRow.news (.inr ⟨b', off, by rw [h3], fun j hj => h5 j (by omega)⟩)

theorem RAt.cap {ok : Nat → Prop} {w : World} {a : Option Addr} {n c : Nat} {L : List Ent} (h : RAt ok w (.slice a n c) L) : n ≤ c := by
  obtain ⟨a', c', h1, hc, _⟩ := h
  injection h1 with _ e2 e3
  omega

/-- one fewer -/
theorem RAt.pop {ok : Nat → Prop} {w : World} {a : Option Addr} {n c : Nat} {L : List Ent} (h : RAt ok w (.slice a (n + 1) c) L) (hn : L.length = n + 1) : RAt ok w (.slice a n c) L.dropLast := by
  obtain ⟨a', c', h1, hc, hno, h2⟩ := h
  injection h1 with e1 _ e3
  subst e1 e3
  refine ⟨a, c, by rw [List.length_dropLast, hn]; rfl, by rw [List.length_dropLast]; omega, fun e => by have := (hno e).1; rw [this] at hn; simp at hn, ?_⟩
  rcases h2 with h2 | ⟨g, cs, h3, h4, h5, h6⟩
  · rw [h2] at hn; simp at hn
  · refine .inr ⟨g, cs, h3, h4, h5, fun i hi => ?_⟩
    rw [List.length_dropLast] at hi
    have := h6 i (by omega)
    rw [List.getElem_dropLast]
    exact this

set_option maxHeartbeats 800000 in
theorem rput_big {ok : Nat → Prop} {w : World} {lv : Value} {L : List Ent} (hR : RAt ok w lv L) (hok : ∀ i, w.heap.size ≤ i → ok i) (hL : L.length ≤ 1000) (most h m k : Int) (a : Option Addr) (l c : Nat) (hb : most < l) :
    Calls Try.prog 16 #[rv most lv h m, .int .i64 k, .slice a l c] w (RDropPost ok most h m (L.filter fun e => e.key != k) w) := by
  have HD : Hid (∀ w', Below w.heap.size w w' → Calls Try.prog 17 #[rv most lv h m, .int .i64 k] w' (RDropPost ok most h m (L.filter fun e => e.key != k) w')) := Lib.hid (fun w' hb =>
    rdrop_any (hR.ext (Ext.of_below hb)) (fun j hj => hok j (by have := hb.size; omega)) hL most h m _)
  obtain ⟨a0, c0, rfl, _⟩ := hR
  clear hok
  unfold rv at *
  go_enter Try.func16, Try.ntmps16
  go_wp2_with fail
  have H2 := Lib.hid (head2_mk w most (.slice a0 L.length c0) h m)
  generalize (w.alloc (.cells #[.int .i64 most, .slice a0 L.length c0, .int .i64 h, .int .i64 m] 43)).alloc (.cells #[.int .i64 0, .slice none 0 0, .int .i64 0, .int .i64 0] 43) = w2 at *
  obtain ⟨⟨s0, s1, s2, s3⟩, _⟩ := H2.out.boxes.cells
  go_wp2_with fail
  refine (HD.out w2 H2.out.below).mono ?_
  rintro e w3 ⟨lv3, rfl, hr3, hb3⟩
  have HX3 := Lib.hid (H2.out.boxes.ext (Ext.of_below hb3))
  have HB3 := Lib.hid (H2.out.below.trans (hb3.mono H2.out.below.size))
  have HR3 := Lib.hid hr3
  clear hb3 hr3 s0 s1 s2 s3
  obtain ⟨⟨s0, s1, s2, s3⟩, _⟩ := HX3.out.cells
  obtain ⟨⟨f0, f1, f2, f3⟩, _⟩ := HX3.out.free
  obtain ⟨a3, c3, hlv3⟩ : ∃ a3 c3, lv3 = .slice a3 (L.filter fun e => e.key != k).length c3 := by obtain ⟨a5, c5, h1, _⟩ := HR3.out; exact ⟨a5, c5, h1⟩
  obtain ⟨n3, hn3⟩ : ∃ n3, Hid ((L.filter fun e => e.key != k).length = n3) := ⟨_, Lib.hid rfl⟩
  rw [hn3.out] at hlv3
  subst hlv3
  unfold rv
  go_upto_region 2 with (fail)
  have HX4 := Lib.hid (put_boxes HX3.out most (.slice a3 n3 c3) h m)
  have hmv := put_mv w3 w.heap.size (.int .i64 most) (.slice a3 n3 c3) (.int .i64 h) (.int .i64 m)
  have HB4 := Lib.hid (HB3.out.trans (hmv.inb (Nat.le_refl _)))
  have HR4 := Lib.hid (HX3.out.rat HR3.out hmv)
  clear s0 s1 s2 s3 f0 f1 f2 f3 hmv
  generalize (((w3.setCell ⟨w.heap.size, 0, none⟩ (.int .i64 most)).setCell ⟨w.heap.size, 1, none⟩ (.slice a3 n3 c3)).setCell ⟨w.heap.size, 2, none⟩ (.int .i64 h)).setCell ⟨w.heap.size, 3, none⟩ (.int .i64 m) = w4 at *
  obtain ⟨⟨s0, s1, s2, s3⟩, ⟨t0, t1, t2, t3⟩⟩ := HX4.out.cells
  obtain ⟨_, ⟨g0, g1, g2, g3⟩⟩ := HX4.out.free
  go_wp2_with fail
  have hblk := ret_blk HX4.out (.int .i64 most) (.slice a3 n3 c3) (.int .i64 h) (.int .i64 m)
  have hmv := ret_mv w4 w.heap.size (.int .i64 most) (.slice a3 n3 c3) (.int .i64 h) (.int .i64 m)
  (try simp only [Exit.inBlock, Exit.then])
  refine bodyPost_ret (results_cell_row rfl _ _ (w.heap.size + 1) 43 _ (0, 0) _ rfl hblk Try.underlying43 rfl info43) rfl ?_
  exact ⟨_, rfl, HX4.out.rat HR4.out hmv, HB4.out.trans (hmv.inb (Nat.le_refl _))⟩

set_option maxHeartbeats 1600000 in
theorem rput_some {ok : Nat → Prop} {w : World} {lv : Value} {L : List Ent} (hR : RAt ok w lv L) (hok : ∀ i, w.heap.size ≤ i → ok i) (hL : L.length ≤ 900) (most h m k : Int) (hT : total L ≤ 100000000) (h0 : 0 ≤ most) (a : Option Addr) (l c : Nat) (bs : List Int) (hl : l ≤ 1000000) (hbs : BytesIn w.heap.size w a l c bs) (hb : (l : Int) ≤ most) (E : Nat) (bv : Value) :
    Calls Try.prog 16 #[rv most lv h m, .int .i64 k, .slice a l c] w (RDropPost ok most h m (evict most (⟨k, bs, E, bv⟩ :: L.filter fun e => e.key != k)) w) := by
  obtain ⟨i0, hi0, hz0, hz1, hz2⟩ := info_parts info63
  obtain ⟨i5, hi5, hy0, hy1, hy2⟩ := info_parts info5
  have HD : Hid (∀ w', Below w.heap.size w w' → Calls Try.prog 17 #[rv most lv h m, .int .i64 k] w' (RDropPost ok most h m (L.filter fun e => e.key != k) w')) := Lib.hid (fun w' hb =>
    rdrop_any (hR.ext (Ext.of_below hb)) (fun j hj => hok j (by have := hb.size; omega)) (by omega) most h m _)
  have HOK := Lib.hid hok
  have HBS := Lib.hid hbs
  have HT := Lib.hid (show total (⟨k, bs, E, bv⟩ :: L.filter fun e => e.key != k) ≤ 1000000000 from by
    have := filter_total L (fun e => e.key != k); simp only [total]; have := hbs.1; omega)
  have hfl : (L.filter fun e => e.key != k).length ≤ L.length := List.length_filter_le _ _
  obtain ⟨L0, hL0⟩ : ∃ L0 : List Ent, Hid (⟨k, bs, E, bv⟩ :: L.filter (fun e => e.key != k) = L0) := ⟨_, Lib.hid rfl⟩
  rw [hL0.out] at HT ⊢
  obtain ⟨a0, c0, rfl, _⟩ := hR
  clear hok hbs
  unfold rv at *
  go_enter Try.func16, Try.ntmps16
  go_wp2_with fail
  have H2 := Lib.hid (head2_mk w most (.slice a0 L.length c0) h m)
  generalize (w.alloc (.cells #[.int .i64 most, .slice a0 L.length c0, .int .i64 h, .int .i64 m] 43)).alloc (.cells #[.int .i64 0, .slice none 0 0, .int .i64 0, .int .i64 0] 43) = w2 at *
  obtain ⟨⟨s0, s1, s2, s3⟩, _⟩ := H2.out.boxes.cells
  go_wp2_with fail
  refine (HD.out w2 H2.out.below).mono ?_
  rintro e w3 ⟨lv3, rfl, hr3, hb3⟩
  have HX3 := Lib.hid (H2.out.boxes.ext (Ext.of_below hb3))
  have HB3 := Lib.hid (H2.out.below.trans (hb3.mono H2.out.below.size))
  have HR3 := Lib.hid hr3
  have hs3 : w.heap.size + 2 ≤ w3.heap.size := by have := hb3.size; have := H2.out.size; omega
  clear hb3 hr3 s0 s1 s2 s3
  obtain ⟨⟨s0, s1, s2, s3⟩, _⟩ := HX3.out.cells
  obtain ⟨⟨f0, f1, f2, f3⟩, _⟩ := HX3.out.free
  obtain ⟨a3, c3, hlv3⟩ : ∃ a3 c3, lv3 = .slice a3 (L.filter fun e => e.key != k).length c3 := by obtain ⟨a5, c5, h1, _⟩ := HR3.out; exact ⟨a5, c5, h1⟩
  obtain ⟨n3, hn3⟩ : ∃ n3, Hid ((L.filter fun e => e.key != k).length = n3) := ⟨_, Lib.hid rfl⟩
  rw [hn3.out] at hlv3 hfl
  subst hlv3
  unfold rv
  go_upto_region 2 with (fail)
  have HX4 := Lib.hid (put_boxes HX3.out most (.slice a3 n3 c3) h m)
  have hmv := put_mv w3 w.heap.size (.int .i64 most) (.slice a3 n3 c3) (.int .i64 h) (.int .i64 m)
  have HB4 := Lib.hid (HB3.out.trans (hmv.inb (Nat.le_refl _)))
  have HR4 := Lib.hid (HX3.out.rat HR3.out hmv)
  have hs4 := hmv.size
  rw [← hs4] at hs3
  clear s0 s1 s2 s3 f0 f1 f2 f3 hmv hs4
  generalize (((w3.setCell ⟨w.heap.size, 0, none⟩ (.int .i64 most)).setCell ⟨w.heap.size, 1, none⟩ (.slice a3 n3 c3)).setCell ⟨w.heap.size, 2, none⟩ (.int .i64 h)).setCell ⟨w.heap.size, 3, none⟩ (.int .i64 m) = w4 at *
  obtain ⟨⟨s0, s1, s2, s3⟩, _⟩ := HX4.out.cells
  obtain ⟨⟨_, f1, _, _⟩, _⟩ := HX4.out.free
  obtain ⟨a6, c6, bvs, hlv, hnone, hbvs, hnews⟩ := HR4.out.news
  rw [hn3.out] at hlv
  injection hlv with e1 _ e3
  subst e1 e3
  have hlen := HBS.out.1
  have H5 := Lib.hid (HBS.out.below HB4.out).news
  have H5N := Lib.hid HBS.out.none
  have H5L : Hid ((bs.map (Value.int .u8)).length = l * 1) := Lib.hid (by simp [hlen])
  have H51 : Hid (∀ u ∈ bs.map (Value.int .u8), u.oneCell' = true) := Lib.hid (by intro u hu; obtain ⟨z, _, rfl⟩ := List.mem_map.1 hu; rfl)
  have HNW := Lib.hid hnews
  have HKL : Hid ((KRow bvs (L.filter fun e => e.key != k)).length = n3 * 2) := Lib.hid (by rw [krow_len hbvs.1, hn3.out])
  have HK1 := Lib.hid (krow_one' (L := L.filter fun e => e.key != k) hbvs.one)
  have HNO : Hid (a3 = none → n3 = 0 ∧ c3 = 0) := Lib.hid (fun e => ⟨by rw [← hn3.out, (hnone e).1]; rfl, (hnone e).2⟩)
  have HBVS := Lib.hid hbvs
  clear hnone hbvs hnews hlen
  have HDR : Hid (Below w4.heap.size w4 (w4.alloc (.cells #[] 5)).drew) := Lib.hid (((Below.refl _ w4).alloc (Nat.le_refl _) _).trans ⟨rfl, rfl, rfl, Nat.le_refl _, fun _ _ => rfl⟩)
  have HN4 : Hid (w.heap.size + 2 ≤ w4.heap.size) := Lib.hid hs3
  have H5' : Hid (∀ bb, a = some bb → ∀ j u, (bs.map (Value.int .u8))[j]? = some u → (w4.alloc (.cells #[] 5)).drew.cell? (bb.add j) = some u) := Lib.hid (fun bb hbb j u hj => (Ext.of_below HDR.out).cell (H5.out bb hbb j u hj))
  have hS1 : w4.drew.cell? ⟨w.heap.size, 1, none⟩ = some (.slice a3 n3 c3) := s1
  have hS2 : (w4.alloc (.cells #[] 5)).drew.cell? ⟨w.heap.size, 1, none⟩ = some (.slice a3 n3 c3) := (Ext.of_below HDR.out).cell s1
  have HS := Lib.hid s1
  have HF1 := Lib.hid f1
  have HM1 : Hid (0 + l ≤ maxLen ∧ (0 + l) * 1 ≤ 140737488355328) := Lib.hid ⟨by unfold maxLen; omega, by omega⟩
  have HM2 : Hid (1 + n3 ≤ maxLen ∧ (1 + n3) * 32 ≤ 140737488355328) := Lib.hid ⟨by unfold maxLen; omega, by omega⟩
  go_upto_region 4 with (fail)
  go_region_law (first
    | (refine step_append_onto rfl (.tmp 17) (.tmp 18) 30 rfl (w.heap.size + 2) 5 i5 (.int .u8 0) 1 1 Try.underlying30 hi5 hy0 hy1 hy2 rfl (by decide) w4.heap.size 0 0 [] (by simp [Act.eval]) (World.ownsRow.drew (World.ownsRow_made w4 #[] 0 HN4.out (by decide) rfl)) a l c (bs.map (Value.int .u8)) (by simp [Act.eval]) H5N.out H5L.out H5'.out H51.out HM1.out.1 HM1.out.2 (by have := HDR.out.size; have := HN4.out; omega) (w0 := w4) HDR.out (Nat.le_refl _) HDR.out.size ?_; intro g5 c5 w5 hown5 hb5; rw [Nat.zero_add] at hown5; have HO5 := Lib.hid hown5; have HB5 := Lib.hid hb5; have hS5 := (Ext.of_below hb5).cell HS.out; have hS6 := (Ext.of_below (hb5.alloc hb5.size (.cells #[.int .i64 k, .slice (some ⟨g5, 0, none⟩) l c5] 63))).cell HS.out; clear hown5 hb5)
    | (refine step_append_onto rfl (.tmp 21) (.tmp 23) 41 rfl (w.heap.size + 2) 63 i0 _ 2 32 Try.underlying41 hi0 hz0 hz1 hz2 rfl (by decide) _ 1 1 [.int .i64 k, .slice (some ⟨g5, 0, none⟩) l c5] (by simp [Act.eval]) (row_one w5 (w.heap.size + 2) _ _ (by have := HB5.out.size; have := HN4.out; omega)) a3 n3 c3 _ (by simp [Act.eval]) HNO.out HKL.out (fun bb hbb j u hj => (Ext.of_below (HB5.out.alloc HB5.out.size _)).cell (HNW.out bb hbb j u hj)) HK1.out HM2.out.1 HM2.out.2 (by have := HB5.out.size; have := HN4.out; simp; omega) (w0 := w5) ((Below.refl _ _).alloc (Nat.le_refl _) _) (Nat.le_refl _) (by simp) ?_; intro g6 c6 w6 hown6 hb6; have HO6 := Lib.hid hown6; have HB6 := Lib.hid hb6; have hS7 := (Ext.of_below hb6).cell hS5; have hF7 := ((HX4.out.ext (Ext.of_below HB5.out)).ext (Ext.of_below hb6)).free.1.2.1; clear hown6 hb6))
  all_goals (
    have HX6 := Lib.hid ((HX4.out.ext (Ext.of_below HB5.out)).ext (Ext.of_below HB6.out))
    have HBA : Hid (BAt ok w6 (.slice (some ⟨g5, 0, none⟩) l c5) bs) := Lib.hid ((BAt.row (B := w.heap.size + 2) (by rw [HBS.out.1]; exact HO5.out) (by intro e; cases e) (fun j hj => HOK.out j (by omega))).ext (Ext.of_below HB6.out))
    have HR6 : Hid (RAt ok w6 (.slice (some ⟨g6, 0, none⟩) (1 + n3) c6) L0) := Lib.hid (by
        rw [← hL0.out]
        exact RAt.of_row (B := w.heap.size + 2) (bvs := .slice (some ⟨g5, 0, none⟩) l c5 :: bvs) (by
          rw [List.length_cons, hn3.out, Nat.add_comm n3 1]; exact HO6.out) ((((HBVS.out.ext (Ext.of_below HB5.out)).ext (Ext.of_below HB6.out))).cons' HBA.out) (fun j hj => HOK.out j (by omega)))
    have HX7 := Lib.hid (HX6.out.list (.slice (some ⟨g6, 0, none⟩) (1 + n3) c6))
    have hmv := Mv.set w6 ⟨w.heap.size, 1, none⟩ (.slice (some ⟨g6, 0, none⟩) (1 + n3) c6) (InBoxes w.heap.size) (.inl rfl)
    have HR7 := Lib.hid (HX6.out.rat HR6.out hmv)
    have HB7 := Lib.hid (((HB4.out.trans (HB5.out.mono HB4.out.size)).trans (HB6.out.mono (Nat.le_trans HB4.out.size HB5.out.size))).trans (hmv.inb (Nat.le_refl _)))
    have hs7 : w.heap.size + 2 ≤ (w6.setCell ⟨w.heap.size, 1, none⟩ (.slice (some ⟨g6, 0, none⟩) (1 + n3) c6)).heap.size := by
      rw [hmv.size]; have := HN4.out; have := HB5.out.size; have := HB6.out.size; omega
    clear hmv hS1 hS2 hS5 hS6 hS7 hF7
    generalize w6.setCell ⟨w.heap.size, 1, none⟩ (.slice (some ⟨g6, 0, none⟩) (1 + n3) c6) = w7 at *
    have hl0 : L0.length = 1 + n3 := by rw [← hL0.out, List.length_cons, hn3.out, Nat.add_comm]
    have hl1 : L0.length ≤ 1000 := by omega
    have HR7' : Hid (RAt ok w7 (.slice (some ⟨g6, 0, none⟩) L0.length c6) L0) := by rw [hl0]; exact HR7
    rw [← hl0] at HX7
    clear HR6 HX6 HBA HO5 HO6 HX4 HR4 HX3 HR3 HB4 HB3 HB5 HB6 HNW HKL HK1 HNO HBVS H5 H5N H5L H5' H51 HDR HS HF1 hL0 s0 s1 s2 s3 f1 HR7
    go_wp2_with fail
    go_loopg [] L0.length (fun g wr => ∃ L' : List Ent, L'.length = g ∧ L'.length ≤ 1000 ∧ ∃ c', Hid (Boxes wr w.heap.size most (.slice (some ⟨g6, 0, none⟩) L'.length c') h m) ∧ Hid (RAt ok wr (.slice (some ⟨g6, 0, none⟩) L'.length c') L') ∧ Hid (evict most L' = evict most L0) ∧ Hid (Below w.heap.size w wr) ∧ Hid (total L' ≤ 1000000000) ∧ w.heap.size + 2 ≤ wr.heap.size)
    case atStart => exact ⟨L0, rfl, hl1, c6, HX7, HR7', Lib.hid rfl, HB7, HT, hs7⟩
    case round =>
      obtain ⟨L', hg, hl', c', HX, HR, HE, HB, HTT, hsz⟩ := hrel
      obtain ⟨⟨s0, s1, s2, s3⟩, ⟨t0, t1, t2, t3⟩⟩ := HX.out.cells
      obtain ⟨⟨_, f1, _, _⟩, ⟨g0, g1, g2, g3⟩⟩ := HX.out.free
      have HBY := Lib.hid (rbytes_any (w := wr.drew) (HR.out.ext (ext_drewN wr 1)) hl' HTT.out most h m)
      obtain ⟨t, ht⟩ : ∃ t, Hid (total L' = t) := ⟨_, Lib.hid rfl⟩
      rw [ht.out] at HBY
      obtain ⟨n', hn'⟩ : ∃ n', Hid (L'.length = n') := ⟨_, Lib.hid rfl⟩
      rw [hn'.out] at HX HR HBY s1 hl'
      have HSS : Hid (wr.drew.cell? ⟨w.heap.size, 0, none⟩ = some (.int .i64 most) ∧ wr.drew.cell? ⟨w.heap.size, 1, none⟩ = some (.slice (some ⟨g6, 0, none⟩) n' c') ∧ wr.drew.cell? ⟨w.heap.size, 2, none⟩ = some (.int .i64 h) ∧ wr.drew.cell? ⟨w.heap.size, 3, none⟩ = some (.int .i64 m)) := Lib.hid ⟨s0, s1, s2, s3⟩
      have HEA : Hid (Ext wr (wr.alloc (.cells #[.int .i64 most, .slice (some ⟨g6, 0, none⟩) n' c', .int .i64 h, .int .i64 m] 43)).drew) := Lib.hid (Ext.of_below (below_drewN ((Below.refl _ wr).alloc (Nat.le_refl _) _) 1))
      have HXA := Lib.hid (HX.out.ext HEA.out)
      have HSA := Lib.hid HXA.out.cells.1
      have HRA := Lib.hid (HR.out.ext HEA.out)
      have HBB : Hid (Below w.heap.size w (wr.alloc (.cells #[.int .i64 most, .slice (some ⟨g6, 0, none⟩) n' c', .int .i64 h, .int .i64 m] 43)).drew) := Lib.hid (below_drewN (HB.out.alloc HB.out.size _) 1)
      have hszA : w.heap.size + 2 ≤ (wr.alloc (.cells #[.int .i64 most, .slice (some ⟨g6, 0, none⟩) n' c', .int .i64 h, .int .i64 m] 43)).drew.heap.size := by simp; omega
      by_cases hgt : most < t
      · have hne : 0 < n' := by
          rcases Nat.eq_zero_or_pos n' with e | e
          · exfalso
            have := hn'.out; rw [e] at this
            have h2 : L' = [] := List.eq_nil_of_length_eq_zero this
            have := ht.out; rw [h2] at this; simp [total] at this; omega
          · exact e
        go_wp2_with fail
        go_region_held3 (fun w' => w'.cell? ⟨w.heap.size, 0, none⟩ = some (.int .i64 most) ∧ w'.cell? ⟨w.heap.size, 1, none⟩ = some (.slice (some ⟨g6, 0, none⟩) n' c') ∧ w'.cell? ⟨w.heap.size, 2, none⟩ = some (.int .i64 h) ∧ w'.cell? ⟨w.heap.size, 3, none⟩ = some (.int .i64 m)) (first | exact HSS.out | exact HSA.out)
          (first | (go_at_call 24; refine HBY.out.mono ?_; rintro e w' ⟨rfl, rfl⟩))
        clear s0 s1 s2 s3 t0 t1 t2 t3 f1 g0 g1 g2 g3
        generalize (wr.alloc (.cells #[.int .i64 most, .slice (some ⟨g6, 0, none⟩) n' c', .int .i64 h, .int .i64 m] 43)).drew = wb at *
        obtain ⟨n2, rfl⟩ : ∃ n2, n' = n2 + 1 := ⟨n' - 1, by omega⟩
        obtain ⟨⟨s0, s1, s2, s3⟩, _⟩ := HXA.out.cells
        obtain ⟨⟨_, f1, _, _⟩, _⟩ := HXA.out.free
        have hc9 := HRA.out.cap
        have HPOP := Lib.hid (HRA.out.pop hn'.out)
        have hmv := Mv.set wb ⟨w.heap.size, 1, none⟩ (.slice (some ⟨g6, 0, none⟩) n2 c') (InBoxes w.heap.size) (.inl rfl)
        have HMV := Lib.hid hmv
        have HLL : Hid (L'.dropLast.length = n2) := Lib.hid (by rw [List.length_dropLast, hn'.out]; rfl)
        have HEV : Hid (evict most L'.dropLast = evict most L0) := Lib.hid (by
          rw [← HE.out]; exact (evict_gt (by rw [ht.out]; exact hgt) (by intro e; have := hn'.out; rw [e] at this; simp at this)).symm)
        have HTD : Hid (total L'.dropLast ≤ 1000000000) := Lib.hid (by
          have h1 := (total_take_le n2 HTT.out).2
          rwa [← (show L'.dropLast = L'.take n2 from by rw [List.dropLast_eq_take, hn'.out]; rfl)] at h1)
        clear hmv
        go_wp2_with fail
        go_roundg n2
        case measure => have := hn'.out; omega
        case rel =>
          refine ⟨L'.dropLast, HLL.out, by rw [HLL.out]; omega, c', ?_, ?_, HEV, Lib.hid (HBB.out.trans (HMV.out.inb (Nat.le_refl _))), HTD, by rw [HMV.out.size]; exact hszA⟩
          · rw [HLL.out]; exact Lib.hid (HXA.out.list _)
          · rw [HLL.out]; exact Lib.hid (HXA.out.rat HPOP.out HMV.out)
      · have hle : t ≤ most := by omega
        clear hgt
        go_wp2_with fail
        go_region_held3 (fun w' => w'.cell? ⟨w.heap.size, 0, none⟩ = some (.int .i64 most) ∧ w'.cell? ⟨w.heap.size, 1, none⟩ = some (.slice (some ⟨g6, 0, none⟩) n' c') ∧ w'.cell? ⟨w.heap.size, 2, none⟩ = some (.int .i64 h) ∧ w'.cell? ⟨w.heap.size, 3, none⟩ = some (.int .i64 m)) (first | exact HSS.out | exact HSA.out)
          (first | (go_at_call 24; refine HBY.out.mono ?_; rintro e w' ⟨rfl, rfl⟩))
        clear s0 s1 s2 s3 t0 t1 t2 t3 f1 g0 g1 g2 g3
        generalize (wr.alloc (.cells #[.int .i64 most, .slice (some ⟨g6, 0, none⟩) n' c', .int .i64 h, .int .i64 m] 43)).drew = wb at *
        obtain ⟨⟨s0, s1, s2, s3⟩, ⟨t0, t1, t2, t3⟩⟩ := HXA.out.cells
        obtain ⟨_, ⟨g0, g1, g2, g3⟩⟩ := HXA.out.free
        go_wp2_with fail
        have hblk := ret_blk HXA.out (.int .i64 most) (.slice (some ⟨g6, 0, none⟩) n' c') (.int .i64 h) (.int .i64 m)
        have hmv := ret_mv wb w.heap.size (.int .i64 most) (.slice (some ⟨g6, 0, none⟩) n' c') (.int .i64 h) (.int .i64 m)
        (try simp only [Exit.inBlock, Exit.then])
        refine bodyPost_ret (results_cell_row rfl _ _ (w.heap.size + 1) 43 _ (0, 0) _ rfl hblk Try.underlying43 rfl info43) rfl ?_
        have he : evict most L' = L' := evict_le (by rw [ht.out]; exact hle)
        exact ⟨_, rfl, by rw [← HE.out, he]; exact HXA.out.rat HRA.out hmv, HBB.out.trans (hmv.inb (Nat.le_refl _))⟩)
end Go.Proofs.Ytdodjjnejpdgcaa
