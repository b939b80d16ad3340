/- Caches in memory: Put. -/
import Derived.Test.YtdodjjnejpdgcaaF
import Derived.Deep.LoopGhost
namespace Go.Proofs.Ytdodjjnejpdgcaa
open Go.RowKit Go.Maps

/-- the oldest go till no more are kept than may be -/
def evict (most : Int) (L : List Ent) : List Ent := if _h : most < total L ∧ L ≠ [] then evict most L.dropLast else L
termination_by L.length
decreasing_by
  have h1 : L.dropLast.length = L.length - 1 := List.length_dropLast
  have h2 : 0 < L.length := List.length_pos_iff.2 _h.2
  omega

theorem evict_le {most : Int} {L : List Ent} (h : total L ≤ most) : evict most L = L := by
  rw [evict, dif_neg (by omega)]
theorem evict_gt {most : Int} {L : List Ent} (h : most < total L) (hL : L ≠ []) : evict most L = evict most L.dropLast := by
  rw [evict, dif_pos ⟨h, hL⟩]

section
variable {B : Nat} {w : World} {C M n : Nat} {most hits misses : Int} {L : List Ent} {D : DataW Unit}

theorem drop_any (h : CacheAt B w C M n most hits misses L D) (hm : total L ≤ 100000000) {k : Int} (wk : (Lit.int .i64 k).wf = true) :
    Calls Try.prog 11 #[.pointer (some ⟨C, 0, none⟩), .int .i64 k] w (DropPost B C M n most hits misses L k w) := by
  rcases h.look wk with ⟨h1, v, hrun⟩ | ⟨e, he, rfl, hrun⟩
  · refine (drop_miss h hrun).mono ?_
    rintro e w' ⟨rfl, rfl⟩
    have hf : L.filter (fun x => x.key != k) = L := List.filter_eq_self.2 (fun x hx => by
      have := List.any_eq_false.1 h1 x hx
      simpa using this)
    exact ⟨rfl, ⟨D, by rw [hf]; exact h⟩, Fr.refl _ _⟩
  · exact drop_hit h hm he hrun

theorem put_nil (k : Int) (v : Value) (w : World) : Calls Try.prog 10 #[.pointer none, .int .i64 k, v] w fun e w' => e = .returned (.int .i64 5) ∧ w = w' := by
  go_enter Try.func10, Try.ntmps10
  go_wp2
  go_ret
  exact ⟨rfl, rfl⟩

def PutPost (B C M n : Nat) (most hits misses : Int) (L' : List Ent) (w : World) (e : Ending) (w' : World) : Prop :=
  e = .returned (.int .i64 0) ∧ (∃ D', CacheAt B w' C M n most hits misses L' D') ∧ Fr B w w'

theorem filter_total (L : List Ent) (p : Ent → Bool) : total (L.filter p) ≤ total L := by
  induction L with
  | nil => simp [total]
  | cons a L ih =>
    rw [List.filter_cons]
    split
    · simp only [total]; omega
    · simp only [total]; omega

set_option maxHeartbeats 400000 in
theorem put_big (h : CacheAt B w C M n most hits misses L D) (hm : total L ≤ 100000000) {k : Int} (wk : (Lit.int .i64 k).wf = true) (a : Option Addr) (len c : Nat) (hb : most < len) :
    Calls Try.prog 10 #[.pointer (some ⟨C, 0, none⟩), .int .i64 k, .slice a len c] w (PutPost B C M n most hits misses (L.filter fun x => x.key != k) w) := by
  have O := Lib.hid (drop_any h hm wk)
  clear h
  go_enter Try.func10, Try.ntmps10
  go_wp2_with fail
  refine O.out.mono ?_
  rintro e w1 ⟨rfl, ⟨D1, hc1⟩, hf1⟩
  have h0 := hc1.body.c0
  have C1 := Lib.hid hc1
  have F1 := Lib.hid hf1
  clear hc1 hf1
  go_wp2_with fail
  go_ret
  exact ⟨rfl, ⟨D1, C1.out⟩, F1.out⟩

theorem MapIs.put {x : Ent} (h : MapIs D L) (hD : IsMap D) (hx : ∀ e ∈ L, e.key ≠ x.key) : MapIs (D.put (.int .i64 x.key) (.lit (.int .i64 x.E))) (x :: L) := by
  constructor
  · intro k
    by_cases e : k = x.key
    · subst e
      rw [Maps.has_put_same hD (keyLit _)]
      simp
    · rw [Maps.has_put_other (by simpa using e), h.1 k, List.any_cons]
      have : (x.key == k) = false := by simpa using fun e' => e e'.symm
      rw [this, Bool.false_or]
  · intro e he
    rcases List.mem_cons.1 he with rfl | he
    · rw [Maps.atKey_put_same hD (keyLit _)]
    · rw [Maps.atKey_put_other (by simpa using hx e he)]
      exact h.2 e he

theorem lastN_last : ∀ {L : List Nat} {p : Node} (h : L ≠ []), lastN p L = nd (L.getLast h)
  | [a], _, _ => rfl
  | a :: b :: L, p, _ => by
    show lastN (nd a) (b :: L) = _
    rw [lastN_last (L := b :: L) (by simp)]; rfl

theorem filter_last {L : List Ent} (h : (L.map Ent.key).Nodup) (hL : L ≠ []) : L.filter (fun x => x.key != (L.getLast hL).key) = L.dropLast := by
  have h1 := List.dropLast_concat_getLast hL
  have h2 : ((L.dropLast ++ L.getLast hL :: []).map Ent.key).Nodup := by rw [h1]; exact h
  have h3 := filter_key h2
  rw [h1] at h3
  rw [h3, List.append_nil]

/-- the block of a new element -/
def newEl (k : Int) (v : Value) : Obj := .cells #[.int .i64 k, v, .pointer none, .pointer none] 55
theorem put_body {w1 w2 : World} {L1 : List Ent} {D1 : DataW Unit} {k : Int} {v : Value} {bs : List Int} (h : CacheAt B w1 C M n most hits misses L1 D1) (hb : Below w1.heap.size w1 w2) (hr : w2.ownsRow w1.heap.size 5 1 v bs.length (bs.map (Value.int .u8))) (wk : (Lit.int .i64 k).wf = true) :
    Body Try.prog B (w2.alloc (newEl k v)) C M n most (total L1) hits misses (⟨k, bs, w2.heap.size, v⟩ :: L1) D1 ∧ Seg (w2.alloc (newEl k v)) (sen C) (L1.map Ent.E) (sen C) ∧ (∀ e ∈ L1, e.E ≠ w2.heap.size) := by
  have e1 : Ext w1 w2 := Ext.of_below hb
  have e2 : Ext w2 (w2.alloc (newEl k v)) := Ext.of_below ((Below.refl _ _).alloc (Nat.le_refl _) _)
  have hB := (h.body.ext e1).ext e2
  have hblk : (w2.alloc (newEl k v)).heap[w2.heap.size]? = some (.cells #[.int .i64 k, v, .pointer none, .pointer none] 55 (0, 0)) := (MapKept.heap_alloc w2 _).1
  have hbase : B ≤ w2.heap.size := by have := h.lt; have := hb.size; omega
  refine ⟨⟨hB.bC, hB.bM, hB.blk, hB.c0, hB.c1, hB.c6, hB.c7, hB.c8, fun e he => ?_, hB.mp⟩, e2.seg (e1.seg h.ring), fun e he => ?_⟩
  · rcases List.mem_cons.1 he with rfl | he
    · refine ⟨⟨_, hblk, rfl⟩, (by unfold World.cell?; rw [hblk]; rfl), (by unfold World.cell?; rw [hblk]; rfl), ?_, hbase, wk⟩
      have hr2 := e2.row hr
      refine ⟨hr2.1, ?_⟩
      rcases hr2.2 with h1 | ⟨g, cap, cur, h1, h2, h3⟩
      · exact .inl h1
      · exact .inr ⟨g, cap, cur, h1, by have := h.lt; omega, h3⟩
    · exact hB.els e he
  · obtain ⟨cs, h1, _⟩ := ((h.body.ext e1).els e he).blk
    have := (Array.getElem?_eq_some_iff.1 h1).1
    omega

set_option maxHeartbeats 800000 in
theorem put_some (h : CacheAt B w C M n most hits misses L D) (hm : total L ≤ most) (hmost : most ≤ 8388608) (hn : n ≤ 1000000) {k : Int} (wk : (Lit.int .i64 k).wf = true) (a : Option Addr) (bs : List Int) (c : Nat) (hl : bs.length ≤ 1000000) (hb : (bs.length : Int) ≤ most)
    (hcl : ∀ w', Fr B w w' → Calls Try.prog 20 #[.slice a bs.length c] w' (ClonePost bs w')) :
    Calls Try.prog 10 #[.pointer (some ⟨C, 0, none⟩), .int .i64 k, .slice a bs.length c] w (fun e w' => ∃ E bv, (w.heap.size ≤ E ∧ ∀ g, bv.ownBlock = some g → w.heap.size ≤ g) ∧ PutPost B C M (n + 1) most hits misses (evict most (⟨k, bs, E, bv⟩ :: L.filter fun x => x.key != k)) w e w') := by
  have O := Lib.hid (drop_any h (by omega) wk)
  have HCL := Lib.hid hcl
  have H0 := Lib.hid h
  have htl : total (L.filter fun x => x.key != k) ≤ most := by have := filter_total L (fun x => x.key != k); omega
  have htl0 := total_nonneg (L.filter fun x => x.key != k)
  obtain ⟨L1, hL1⟩ : ∃ L1, Hid (L.filter (fun x => x.key != k) = L1) := ⟨_, Lib.hid rfl⟩
  rw [hL1.out] at htl htl0 ⊢
  have O' : Hid (Calls Try.prog 11 #[.pointer (some ⟨C, 0, none⟩), .int .i64 k] w fun e w' => e = .returned (.tuple #[]) ∧ (∃ D', CacheAt B w' C M n most hits misses L1 D') ∧ Fr B w w') := by
    rw [← hL1.out]; exact O.out
  have HK := Lib.hid (show ∀ e ∈ L1, e.key ≠ k from by rw [← hL1.out]; intro e he; simpa using (List.mem_filter.1 he).2)
  clear h hcl O
  obtain ⟨len, hlen⟩ : ∃ len, Hid (bs.length = len) := ⟨_, Lib.hid rfl⟩
  rw [hlen.out] at hl hb HCL ⊢
  go_enter Try.func10, Try.ntmps10
  go_wp2_with fail
  refine O'.out.mono ?_
  rintro e w1 ⟨rfl, ⟨D1, hc1⟩, hf1⟩
  have h0 := hc1.body.c0
  have C1 := Lib.hid hc1
  have F1 := Lib.hid hf1
  have CL := Lib.hid (HCL.out w1 hf1)
  clear hc1 hf1
  go_wp2_with fail
  refine CL.out.mono ?_
  rintro e w2 ⟨v, rfl, hr, hbl⟩
  have hv : ∃ a' c', v = .slice a' len c' := by
    rw [hlen.out] at hr
    rcases hr.2 with ⟨h1, h2⟩ | ⟨g, cap, cur, h1, _⟩
    · exact ⟨none, 0, by rw [h1, h2]⟩
    · exact ⟨_, _, h1⟩
  obtain ⟨a', c', rfl⟩ := hv
  have PB := Lib.hid (put_body C1.out hbl hr wk)
  have R2 := Lib.hid hr
  have BL2 := Lib.hid hbl
  have k6 := (Ext.of_below hbl).cell C1.out.body.c6
  have hC2 : C < w2.heap.size := by have := C1.out.lt; have := hbl.size; omega
  have hown := PB.out.1.mp
  have hkey := keyOf_int_mk (P := Try.prog) Try.underlying3 wk
  unfold newEl at hown
  clear hr hbl
  go_wp2_with (at_mapUpdate; refine wpList_mapUpdate_own _ rfl _ _ _ 52 rfl 3 53 key_law Try.underlying52 ptrElem M n D1 rfl hown ?hn _ _ (.int .i64 k) rfl rfl hkey (.lit (.int .i64 w2.heap.size)) [] rfl ?_)
  case hn => unfold maxLen; omega
  intro w4 hown4 hgrow4
  have HG4 := Lib.hid hgrow4
  have HO4 := Lib.hid hown4
  clear hown4 hgrow4 hown hkey
  have B4 := Lib.hid (PB.out.1.turn HG4.out HO4.out)
  have S4 := Lib.hid (seg_turn HG4.out PB.out.1.mp PB.out.2.1)
  have hnd : (w2.heap.size :: L1.map Ent.E).Nodup := by
    refine List.nodup_cons.2 ⟨fun hm => ?_, C1.out.body.nodup (fun _ h => h) C1.out.keys⟩
    obtain ⟨e, he, h1⟩ := List.mem_map.1 hm
    exact PB.out.2.2 e he h1
  have hal : Alive (⟨k, bs, w2.heap.size, .slice a' len c'⟩ :: L1) (w2.heap.size :: L1.map Ent.E) := by
    intro e he
    rcases List.mem_cons.1 he with rfl | he
    · exact ⟨_, List.mem_cons_self, rfl⟩
    · obtain ⟨y, hy, h1⟩ := List.mem_map.1 he
      exact ⟨y, List.mem_cons_of_mem _ hy, h1⟩
  have FR := Lib.hid (first_ring B4.out S4.out hal hnd)
  clear hnd hal
  go_wp2_with fail
  refine FR.out.mono ?_
  rintro e w5 ⟨rfl, hb5, hs5, hm5⟩
  have c1 := hb5.c1
  have c0 := hb5.c0
  obtain ⟨cs5, hblk5, _⟩ := hb5.blk
  have f1 := frozen_at hblk5 1
  have B5 := Lib.hid hb5
  have S5 := Lib.hid hs5
  have M5 := Lib.hid hm5
  clear hb5 hs5 hm5 hblk5
  obtain ⟨t1, hT1⟩ : ∃ t, Hid (total L1 = t) := ⟨_, Lib.hid rfl⟩
  rw [hT1.out] at c1 htl htl0
  go_wp2_with fail
  have C6 : Hid (CacheAt B (w5.setCell ⟨C, 1, none⟩ (.int .i64 (t1 + (len : Int)))) C M (n + 1) most hits misses (⟨k, bs, w2.heap.size, .slice a' len c'⟩ :: L1) (D1.put (.int .i64 k) (.lit (.int .i64 w2.heap.size)))) := by
    refine Lib.hid ⟨?_, S5.out.count (by omega) _, ?_, ?_⟩
    · have := B5.out.setSize (t1 + (len : Int))
      rwa [show total (⟨k, bs, w2.heap.size, .slice a' len c'⟩ :: L1) = t1 + (len : Int) from by show (bs.length : Int) + total L1 = _; rw [hT1.out, hlen.out]; omega]
    · rw [List.map_cons]
      refine List.nodup_cons.2 ⟨fun hm => ?_, C1.out.keys⟩
      obtain ⟨e, he, h1⟩ := List.mem_map.1 hm
      exact HK.out e he h1
    · exact C1.out.mp.put (x := ⟨k, bs, w2.heap.size, .slice a' len c'⟩) C1.out.body.mp.isMap (fun e he => HK.out e he)
  have F6 : Hid (Fr B w (w5.setCell ⟨C, 1, none⟩ (.int .i64 (t1 + (len : Int))))) := by
    have hbB : B ≤ w1.heap.size := by have := C1.out.lt; omega
    have f12 := F1.out.trans (Fr.of_below BL2.out hbB)
    have f23 := f12.trans (Fr.of_below ((Below.refl w2.heap.size w2).alloc (Nat.le_refl _) (newEl k (.slice a' len c'))) (Nat.le_trans hbB BL2.out.size))
    have f34 := f23.trans (fr_turn PB.out.1 HG4.out)
    have f45 := f34.trans (M5.out.fr B4.out (fun a ha => ha.block))
    exact Lib.hid (f45.trans ((Mv.set w5 ⟨C, 1, none⟩ _ (fun a => a = ⟨C, 1, none⟩) rfl).fr B5.out (fun a ha => .inl (by rw [ha]))))
  have ht6 : total (⟨k, bs, w2.heap.size, .slice a' len c'⟩ :: L1) ≤ 100000000 := by show (bs.length : Int) + total L1 ≤ _; rw [hT1.out, hlen.out]; omega
  have HE : Hid (w.heap.size ≤ w2.heap.size ∧ ∀ g, (Value.slice a' len c').ownBlock = some g → w.heap.size ≤ g) := by
    have h1 := F1.out.below.size
    refine Lib.hid ⟨Nat.le_trans h1 BL2.out.size, fun g hg => ?_⟩
    have := (R2.out.lt g hg).1
    omega
  have HT6 := Lib.hid ht6
  clear ht6 hC2 k6 c1 c0 h0 f1
  generalize w5.setCell ⟨C, 1, none⟩ (.int .i64 (t1 + (len : Int))) = w6 at *
  obtain ⟨X, hX⟩ : ∃ X, Hid (⟨k, bs, w2.heap.size, .slice a' len c'⟩ :: L1 = X) := ⟨_, Lib.hid rfl⟩
  rw [hX.out] at C6 HT6
  go_loopg [] X.length (fun g wr => ∃ L' D', L'.length ≤ g ∧ total L' ≤ 100000000 ∧ Hid (CacheAt B wr C M (n + 1) most hits misses L' D') ∧ Hid (evict most L' = evict most X) ∧ Hid (Fr B w wr))
  case atStart => exact ⟨X, _, Nat.le_refl _, HT6.out, C6, Lib.hid rfl, F6⟩
  case round =>
    obtain ⟨L', D', hg, htot, HC, HEv, HF⟩ := hrel
    have c0 := HC.out.body.c0
    have c1 := HC.out.body.c1
    by_cases hgt : most < total L'
    · have hne : L' ≠ [] := by rintro rfl; simp [total] at hgt; omega
      have hne2 : L'.map Ent.E ≠ [] := by simpa using hne
      have c4 := HC.out.ring.last.2
      rw [lastN_last hne2] at c4
      have hlast : (L'.map Ent.E).getLast hne2 = (L'.getLast hne).E := by simp
      rw [hlast] at c4
      have hmem := List.getLast_mem hne
      have ck := (HC.out.body.els _ hmem).key
      have wkl := (HC.out.body.els _ hmem).wf
      have HFL := Lib.hid (filter_last HC.out.keys hne)
      have HDR : Hid (∀ m, Calls Try.prog 11 #[.pointer (some ⟨C, 0, none⟩), .int .i64 (L'.getLast hne).key] (wr.drewN m) (DropPost B C M (n + 1) most hits misses L' (L'.getLast hne).key (wr.drewN m))) :=
        Lib.hid (fun m => drop_any (HC.out.ext (ext_drewN wr m)) htot wkl)
      have HEg := Lib.hid (evict_gt hgt hne)
      have hpos : 0 < L'.length := List.length_pos_iff.2 hne
      have hdl : Hid (L'.dropLast.length = L'.length - 1) := Lib.hid List.length_dropLast
      have HTD : Hid (total L'.dropLast ≤ 100000000) := by
        refine Lib.hid ?_
        rw [← HFL.out]
        have := filter_total L' (fun x => x.key != (L'.getLast hne).key)
        omega
      have c4' : wr.cell? ⟨C, 4, none⟩ = some (.pointer (some ⟨(L'.getLast hne).E, 0, none⟩)) := c4
      clear c4 hlast hmem wkl hne2
      generalize hLE : (L'.getLast hne).E = LE at *
      have HLE := Lib.hid hLE
      clear hLE
      generalize hLK : (L'.getLast hne).key = LK at *
      have HLK := Lib.hid hLK
      clear hLK
      obtain ⟨tt, htt⟩ : ∃ t, Hid (total L' = t) := ⟨_, Lib.hid rfl⟩
      rw [htt.out] at c1 hgt htot
      go_wp2_with fail
      go_quiet (fail)
      go_wp2_with fail
      refine (HDR.out _).mono ?_
      rintro e wd ⟨rfl, ⟨Dd, hcd⟩, hfd⟩
      rw [HFL.out] at hcd
      have CD := Lib.hid hcd
      have FD := Lib.hid (HF.out.trans (Fr.trans ((Fr.refl B wr).drewN _) hfd))
      clear hcd hfd
      go_wp2_with fail
      go_roundg (L'.length - 1)
      case measure => omega
      case rel => exact ⟨L'.dropLast, Dd, by rw [hdl.out]; omega, HTD.out, CD, Lib.hid (by rw [← HEg.out]; exact HEv.out), FD⟩
    · have HEe := Lib.hid (evict_le (most := most) (L := L') (by omega))
      obtain ⟨tt, htt⟩ : ∃ t, Hid (total L' = t) := ⟨_, Lib.hid rfl⟩
      rw [htt.out] at c1 hgt htot
      go_wp2_with fail
      go_quiet (fail)
      go_wp2_with fail
      go_ret
      refine ⟨w2.heap.size, .slice a' len c', HE.out, rfl, ⟨D', ?_⟩, HF.out.trans ((Fr.refl B wr).drewN _)⟩
      rw [hX.out, ← HEv.out, HEe.out]
      exact HC.out.ext (ext_drewN wr _)
end
end Go.Proofs.Ytdodjjnejpdgcaa
