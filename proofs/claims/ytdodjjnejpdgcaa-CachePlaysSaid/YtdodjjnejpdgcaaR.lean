/- The walk of the law CachePlays. -/
import Derived.Test.YtdodjjnejpdgcaaQ
import Derived.Deep.DeepCutAuto
import Derived.Deep.QuietTactic
import Derived.BigQuiet
import Derived.Deep.CutBlock
namespace Go.Proofs.Ytdodjjnejpdgcaa
open Go.RowKit Go.Maps

theorem plays_much (most : Int) (a : Option Addr) (len cap : Nat) (acts : List ActD) (w : World) (h : ActsAt w.heap.size w a len acts) (hm : muchB acts = true) :
    Calls Try.prog 4 #[.int .i64 most, .slice a len cap] w fun e w' => e = .returned (.bool true) ∧ Below w.heap.size w w' := by
  have H := Lib.hid (much_any a len cap acts w.heap.size w h)
  rw [hm] at H
  clear h hm
  go_enter Try.func4, Try.ntmps4
  go_wp2_with fail
  refine H.out.mono ?_
  rintro e w1 ⟨rfl, rfl⟩
  go_wp2_with fail
  refine (live_any _).mono ?_
  rintro e w1 ⟨rfl, hb⟩
  have HB := Lib.hid hb
  clear hb
  go_wp2_with fail
  go_ret
  exact ⟨rfl, HB.out⟩

theorem plays_bad (most : Int) (a : Option Addr) (len cap : Nat) (acts : List ActD) (w : World) (h : ActsAt w.heap.size w a len acts) (hm : muchB acts = false) (hb : most < 0 ∨ 8388608 < most) :
    Calls Try.prog 4 #[.int .i64 most, .slice a len cap] w fun e w' => e = .returned (.bool true) ∧ Below w.heap.size w w' := by
  have H := Lib.hid (much_any a len cap acts w.heap.size w h)
  rw [hm] at H
  clear h hm
  have HN := Lib.hid (new_bad most w hb)
  by_cases h0 : most < 0
  · clear hb
    go_enter Try.func4, Try.ntmps4
    go_wp2_with fail
    refine H.out.mono ?_
    rintro e w1 ⟨rfl, rfl⟩
    go_wp2_with fail
    refine HN.out.mono ?_
    rintro e w1 ⟨rfl, rfl⟩
    go_wp2_with fail
    refine (num_any _ _).mono ?_
    rintro e w1 ⟨rfl, rfl⟩
    go_wp2_with fail
    refine (live_any _).mono ?_
    rintro e w1 ⟨rfl, hb⟩
    have HB := Lib.hid hb
    clear hb
    go_wp2_with fail
    go_ret
    exact ⟨rfl, HB.out⟩
  · have h1 : 8388608 < most := by omega
    clear hb
    go_enter Try.func4, Try.ntmps4
    go_wp2_with fail
    refine H.out.mono ?_
    rintro e w1 ⟨rfl, rfl⟩
    go_wp2_with fail
    refine HN.out.mono ?_
    rintro e w1 ⟨rfl, rfl⟩
    go_wp2_with fail
    refine (num_any _ _).mono ?_
    rintro e w1 ⟨rfl, rfl⟩
    go_wp2_with fail
    refine (live_any _).mono ?_
    rintro e w1 ⟨rfl, hb⟩
    have HB := Lib.hid hb
    clear hb
    go_wp2_with fail
    go_ret
    exact ⟨rfl, HB.out⟩

theorem front_total {L : List Ent} {e : Ent} (he : e ∈ L) (hk : (L.map Ent.key).Nodup) : total (e :: L.filter fun y => y.key != e.key) = total L := by
  obtain ⟨L1, L2, rfl⟩ := List.append_of_mem he
  rw [filter_key hk]
  simp only [total, total_app]; omega

/-- a block of bytes -/
def XRow (X n : Nat) (w : World) : Prop := ∃ cs, w.heap[X]? = some (.cells cs 5 (0, 0)) ∧ ∀ j, j < n → ∃ z : Int, cs[j]? = some (.int .u8 z)
theorem XRow.ext {X n : Nat} {w w' : World} (h : XRow X n w) (he : Ext w w') : XRow X n w' := by
  obtain ⟨cs, h1, h2⟩ := h; exact ⟨cs, he _ _ h1, h2⟩
theorem XRow.fr {X n B : Nat} {w w' : World} (h : XRow X n w) (he : Fr B w w') : XRow X n w' := by
  obtain ⟨cs, h1, h2⟩ := h; exact ⟨cs, he.other _ _ _ _ h1 (by decide) (by decide), h2⟩
theorem XRow.box {X n : Nat} {w w' : World} (h : XRow X n w) {R : Nat} {cs : Array Value} (hR : w.heap[R]? = some (.cells cs 43 (0, 0))) (hm : Mv (fun a => a.block = R) w w') : XRow X n w' := by
  obtain ⟨cs', h1, h2⟩ := h
  exact ⟨cs', hm.stands (t0 := 43) (fun a ha => ⟨cs, by rw [ha]; exact hR⟩) h1 (by intro c e; injection e with _ e _; cases e), h2⟩
theorem XRow.bump {X n : Nat} {w : World} (h : 0 < n → XRow X n w) : Bump X n w w := by
  refine ⟨Mv.refl _ _, fun j hj => ?_⟩
  obtain ⟨cs, h1, h2⟩ := h (by omega)
  obtain ⟨z, hz⟩ := h2 j hj
  exact ⟨z, cell_of h1 hz⟩
theorem row_x {w : World} {base : Nat} {v : Value} {n : Nat} {xs : List Int} (h : w.ownsRow base 5 1 v n (xs.map (Value.int .u8))) :
    ∃ a c X, v = .slice a n c ∧ (0 < n → a = some ⟨X, 0, none⟩ ∧ base ≤ X ∧ X < w.heap.size ∧ XRow X n w) := by
  obtain ⟨hl, h2 | ⟨g, cap, cur, h1, h2, h3, h4, h5, h6, h7⟩⟩ := h
  · exact ⟨none, 0, 0, by rw [h2.1, h2.2], fun hn => by omega⟩
  · refine ⟨_, cap, g, h1, fun _ => ⟨rfl, h2, (Array.getElem?_eq_some_iff.1 h3).1, cur, h3, fun j hj => ?_⟩⟩
    have hl' : xs.length = n := by simpa using hl
    have h8 : (cur.toList.take (n * 1))[j]? = some (.int .u8 (xs[j]'(by omega))) := by
      rw [h7, List.getElem?_map, List.getElem?_eq_getElem (by omega)]; rfl
    rw [List.getElem?_take_of_lt (by omega)] at h8
    exact ⟨_, by simpa using h8⟩

/-- Put, in the cache and in the reference -/
theorem put_both {ok : Nat → Prop} {B : Nat} {w : World} {C M n : Nat} {most hits misses : Int} {L : List Ent} {D : DataW Unit} {lv : Value} (h : CacheAt B w C M n most hits misses L D) (h0 : 0 ≤ most) (hT : total L ≤ most) (hmost : most ≤ 8388608) (hn : n ≤ 1000000) (hLL : L.length ≤ 900) (hL2 : ∀ e ∈ L, e.bs.length ≤ 2000)
    {k : Int} (wk : (Lit.int .i64 k).wf = true) {X c : Nat} {bs : List Int} (hl : bs.length ≤ 2000) (hrow : w.ownsRow B 5 1 (.slice (some ⟨X, 0, none⟩) bs.length c) bs.length (bs.map (Value.int .u8))) (hokL : ∀ e ∈ L, ∀ g, e.bv.ownBlock = some g → ok g) (hokn : ∀ i, w.heap.size ≤ i → ok i) :
    Calls Try.prog 10 #[.pointer (some ⟨C, 0, none⟩), .int .i64 k, .slice (some ⟨X, 0, none⟩) bs.length c] w fun e w' => e = .returned (.int .i64 0) ∧ Fr B w w' ∧ ∃ L' D' n', n' ≤ n + 1 ∧ CacheAt B w' C M n' most hits misses L' D' ∧ (L'.length ≤ L.length + 1 ∧ total L' ≤ most ∧ (∀ e ∈ L', e.bs.length ≤ 2000) ∧ ∀ e ∈ L', ∀ g, e.bv.ownBlock = some g → ok g) ∧
      ∀ (wx : World) (a : Option Addr) (ca : Nat), RAt ok wx lv L → BytesIn wx.heap.size wx a bs.length ca bs → (∀ i, wx.heap.size ≤ i → ok i) → Calls Try.prog 16 #[rv most lv hits misses, .int .i64 k, .slice a bs.length ca] wx (RDropPost ok most hits misses L' wx) := by
  by_cases hb : (bs.length : Int) ≤ most
  · refine (put_some h hT hmost hn wk (some ⟨X, 0, none⟩) bs c (by omega) hb (fun w' hf => clone_row (hf.row (by decide) (by decide) hrow) (by omega))).mono ?_
    rintro e w' ⟨E, bv, ⟨_, hbv⟩, rfl, ⟨D', hc⟩, hf⟩
    refine ⟨rfl, hf, _, D', n + 1, Nat.le_refl _, hc, ⟨?_, evict_total h0 _, fun e he => ?_, fun e he g hg => ?_⟩, fun wx a ca hr hby hok => rput_some hr hok hLL most hits misses k (by omega) h0 a bs.length ca bs (by omega) hby hb E bv⟩
    · refine Nat.le_trans (evict_len _) ?_
      rw [List.length_cons]; exact Nat.succ_le_succ (List.length_filter_le _ _)
    · rcases List.mem_cons.1 (evict_sub _ e he) with rfl | h2
      · exact hl
      · exact hL2 e (List.mem_filter.1 h2).1
    · rcases List.mem_cons.1 (evict_sub _ e he) with rfl | h2
      · exact hokn g (hbv g hg)
      · exact hokL e (List.mem_filter.1 h2).1 g hg
  · refine (put_big h (by omega) wk (some ⟨X, 0, none⟩) bs.length c (by omega)).mono ?_
    rintro e w' ⟨rfl, ⟨D', hc⟩, hf⟩
    refine ⟨rfl, hf, _, D', n, by omega, hc, ⟨Nat.le_succ_of_le (List.length_filter_le _ _), by have := filter_total L (fun x => x.key != k); omega, fun e he => hL2 e (List.mem_filter.1 he).1, fun e he g hg => hokL e (List.mem_filter.1 he).1 g hg⟩, fun wx a ca hr _ hok => rput_big hr hok (by omega) most hits misses k a bs.length ca (by omega)⟩

set_option maxRecDepth 100000 in
set_option maxHeartbeats 6400000 in
theorem plays_loop (most : Int) (a : Option Addr) (len cap : Nat) (acts : List ActD) (w : World) (h : ActsAt w.heap.size w a len acts) (hm : muchB acts = false) (h0 : 0 ≤ most) (hmost : most ≤ 8388608) :
    Calls Try.prog 4 #[.int .i64 most, .slice a len cap] w fun e w' => e = .returned (.bool true) ∧ Below w.heap.size w w' := by
  have H := Lib.hid (much_any a len cap acts w.heap.size w h)
  rw [hm] at H
  have HN := Lib.hid (new_ok most w h0 hmost)
  have HA := Lib.hid h
  obtain ⟨i5, hi5, hy0, hy1, hy2⟩ := info_parts info5
  have h80 : len ≤ 80 := by
    have := h.alen
    unfold muchB at hm
    simp at hm
    omega
  have HBL : Hid (∀ x ∈ acts, x.bl ≤ 2000) := by
    refine Lib.hid (fun x hx => ?_)
    unfold muchB at hm
    simp at hm
    exact hm.2 x hx
  have HL := Lib.hid h.alen
  clear h hm
  go_enter Try.func4, Try.ntmps4
  go_wp2_with fail
  refine H.out.mono ?_
  rintro e w1 ⟨rfl, rfl⟩
  go_wp2_with fail
  refine HN.out.mono ?_
  rintro e w1 ⟨C, M, rfl, hc1, hb1⟩
  have HC1 := Lib.hid hc1
  have HB1 := Lib.hid hb1
  clear hc1 hb1
  go_wp2_with fail
  refine (num_any _ _).mono ?_
  rintro e w1' ⟨rfl, rfl⟩
  go_wp2_with fail
  have HS : Hid (HeadP C M w1.heap.size most 0 (fun _ => True) w (w1.alloc (.cells #[.int .i64 most, .slice none 0 0, .int .i64 0, .int .i64 0] 43))) :=
    Lib.hid ⟨[], _, 0, 0, 0, .slice none 0 0, HC1.out.ext (Ext.of_below ((Below.refl _ w1).alloc (Nat.le_refl _) _)), ⟨by omega, Nat.le_refl _, by omega, by omega, by omega, by omega⟩, ⟨h0, fun e he => by cases he⟩, ⟨none, 0, rfl, Nat.le_refl _, fun _ => ⟨rfl, rfl⟩, .inl rfl⟩, alloc_at _ _, HB1.out.alloc HB1.out.size _, fun e he => by cases he⟩
  have HRR : Hid (w.heap.size ≤ w1.heap.size) := Lib.hid HB1.out.size
  clear HC1 HB1
  generalize hw2 : w1.alloc (.cells #[.int .i64 most, .slice none 0 0, .int .i64 0, .int .i64 0] 43) = w2 at *
  generalize w1.heap.size = R at *
  clear hw2
  go_loopg [8] len (fun g i wr => ∃ k : Nat, k + g = len ∧ i = .int .i64 k ∧ Hid (HeadP C M R most k (fun _ => True) w wr))
  case atStart => exact ⟨0, by omega, rfl, HS⟩
  case round =>
    obtain ⟨k, hkg, rfl, hH⟩ := hrel
    by_cases hlt : k < len
    · obtain ⟨L, D, n, h, m, lv, hc, ⟨hn, hLk, hh0, hh1, hm0, hm1⟩, ⟨hT, hL2⟩, hR, hR0, hF, _⟩ := hH.out
      have hk' : k < acts.length := by rw [HL.out]; exact hlt
      have hAr := HA.out.below hF
      rcases HA.out.cells with hz | ⟨b, off, rfl, hb, hcells⟩
      · omega
      have c0 := (hF.cell (by exact hb)).trans (hcells k hk').1
      have c1 := (hF.cell (by exact hb)).trans (hcells k hk').2.1
      have c2 := (hF.cell (by exact hb)).trans (hcells k hk').2.2
      have hok := hAr.ok _ (List.getElem_mem hk')
      have hbl := HBL.out _ (List.getElem_mem hk')
      have HT := Lib.hid hT
      have HL2 := Lib.hid hL2
      have HOK := Lib.hid hok
      have HC := Lib.hid hc
      have HR := Lib.hid hR
      have HR0 := Lib.hid hR0
      have HF := Lib.hid hF
      obtain ⟨al, cl, hlv⟩ : ∃ al cl, lv = .slice al L.length cl := by obtain ⟨al, cl, h1, _⟩ := hR; exact ⟨al, cl, h1⟩
      subst hlv
      clear hcells hAr hok hc hF hH hR hR0 hT hL2
      generalize acts[k] = x at *
      obtain ⟨d, ky, ba, bl, bc, bs⟩ := x
      dsimp only at c0 c1 c2 hbl
      go_upto_block 2 with (fail)
      obtain ⟨wa, hwa⟩ : ∃ wa, Hid (wr.alloc (.cells #[.int .i64 d, .int .i64 ky, .slice ba bl bc] 32) = wa) := ⟨_, Lib.hid rfl⟩
      rw [hwa.out]
      have HXa : Hid (Ext wr wa) := by rw [← hwa.out]; exact Lib.hid (Ext.of_below ((Below.refl _ _).alloc (Nat.le_refl _) _))
      have HCa := Lib.hid (HC.out.ext HXa.out)
      have HRa := Lib.hid (HR.out.ext HXa.out)
      have HRa0 := Lib.hid (HXa.out _ _ HR0.out)
      have HFa : Hid (Below w.heap.size w wa) := by rw [← hwa.out]; exact Lib.hid (HF.out.alloc HF.out.size _)
      have HBX : Hid (wa.heap[wr.heap.size]? = some (.cells #[.int .i64 d, .int .i64 ky, .slice ba bl bc] 32 (0, 0))) := by rw [← hwa.out]; exact Lib.hid (alloc_at _ _)
      have HOKa : Hid (ActOk w.heap.size wa ⟨d, ky, ba, bl, bc, bs⟩) := by
        rw [← hwa.out]; exact Lib.hid (HOK.out.below ((Below.refl _ _).alloc HF.out.size _))
      clear HC HR HR0 HOK HXa
      generalize wr.heap.size = A at *
      go_cut [] (fun wx => Hid (HeadP C M R most (k + 1) (fun _ => True) w wx))
      case first =>
        obtain ⟨q0, q1, q2⟩ := box_cells HBX.out
        by_cases hd : d = 0
        · subst hd
          rcases HCa.out.look HOKa.out.wk with ⟨hany, v, hrun⟩ | ⟨e0, he0, hk0, hrun⟩
          · have HNK : Hid (∀ e ∈ L, e.key ≠ ky) := Lib.hid (fun e he hk => by have := List.any_eq_false.1 hany e he; simp [hk] at this)
            have HG := Lib.hid (get_miss HCa.out ⟨hm0, by omega⟩ hrun)
            clear hany hrun
            go_wp2_with fail
            refine HG.out.mono ?_
            rintro e wg ⟨rfl, hcg, hfg⟩
            have HCg := Lib.hid hcg
            have HFg := Lib.hid (HFa.out.trans hfg.below)
            have HRg := Lib.hid (HRa.out.fr hfg)
            have HRg0 := Lib.hid (hfg.other _ _ _ _ HRa0.out (by decide) (by decide))
            have HBXg := Lib.hid (hfg.other _ _ _ _ HBX.out (by decide) (by decide))
            clear hcg hfg q0 q1 q2
            obtain ⟨q0, q1, q2⟩ := box_cells HBXg.out
            have s0 : wg.cell? ⟨R, 0, none⟩ = some (.int .i64 most) := cell_of HRg0.out rfl
            have s1 : wg.cell? ⟨R, 1, none⟩ = some (.slice al L.length cl) := cell_of HRg0.out rfl
            have s2 : wg.cell? ⟨R, 2, none⟩ = some (.int .i64 h) := cell_of HRg0.out rfl
            have s3 : wg.cell? ⟨R, 3, none⟩ = some (.int .i64 m) := cell_of HRg0.out rfl
            go_wp2_with fail
            refine (rget_miss HRg.out (by omega) most h m ky ⟨hm0, by omega⟩ HNK.out).mono ?_
            rintro e w3 ⟨rfl, hr3, hb3⟩
            have HC3 := Lib.hid (HCg.out.ext (Ext.of_below hb3))
            have HR3 := Lib.hid hr3
            have HR03 := Lib.hid (Ext.of_below hb3 _ _ HRg0.out)
            have HF3 := Lib.hid (HFg.out.trans (hb3.mono HFg.out.size))
            clear hr3 hb3 s0 s1 s2 s3 q0 q1 q2
            unfold rv
            go_upto_region 17 with (fail)
            have HX4 : Hid (Ext w3 (w3.alloc (.cells #[.int .i64 most, .slice al L.length cl, .int .i64 h, .int .i64 (m + 1)] 43))) := Lib.hid (Ext.of_below ((Below.refl _ _).alloc (Nat.le_refl _) _))
            have HN4 : Hid ((w3.alloc (.cells #[.int .i64 most, .slice al L.length cl, .int .i64 h, .int .i64 (m + 1)] 43)).heap[w3.heap.size]? = some (.cells #[.int .i64 most, .slice al L.length cl, .int .i64 h, .int .i64 (m + 1)] 43 (0, 0))) := Lib.hid (alloc_at _ _)
            have HF4 : Hid (Below w.heap.size w (w3.alloc (.cells #[.int .i64 most, .slice al L.length cl, .int .i64 h, .int .i64 (m + 1)] 43))) := Lib.hid (HF3.out.alloc HF3.out.size _)
            generalize w3.alloc (.cells #[.int .i64 most, .slice al L.length cl, .int .i64 h, .int .i64 (m + 1)] 43) = w4 at *
            have HR04 := Lib.hid (HX4.out _ _ HR03.out)
            have hneR : w3.heap.size ≠ R := by have := (Array.getElem?_eq_some_iff.1 HR03.out).1; omega
            have v0 : w4.cell? ⟨w3.heap.size, 0, none⟩ = some (.int .i64 most) := cell_of HN4.out rfl
            have v1 : w4.cell? ⟨w3.heap.size, 1, none⟩ = some (.slice al L.length cl) := cell_of HN4.out rfl
            have v2 : w4.cell? ⟨w3.heap.size, 2, none⟩ = some (.int .i64 h) := cell_of HN4.out rfl
            have v3 : w4.cell? ⟨w3.heap.size, 3, none⟩ = some (.int .i64 (m + 1)) := cell_of HN4.out rfl
            have s0 : w4.cell? ⟨R, 0, none⟩ = some (.int .i64 most) := cell_of HR04.out rfl
            have s1 : w4.cell? ⟨R, 1, none⟩ = some (.slice al L.length cl) := cell_of HR04.out rfl
            have s2 : w4.cell? ⟨R, 2, none⟩ = some (.int .i64 h) := cell_of HR04.out rfl
            have s3 : w4.cell? ⟨R, 3, none⟩ = some (.int .i64 m) := cell_of HR04.out rfl
            have f0 := frozen_at HR04.out 0
            have f1 := frozen_at HR04.out 1
            have f2 := frozen_at HR04.out 2
            have f3 := frozen_at HR04.out 3
            go_upto_region 18 with (fail)
            have hmv := rput_mv w4 R (.int .i64 most) (.slice al L.length cl) (.int .i64 h) (.int .i64 (m + 1))
            have HR05 := Lib.hid (rput_blk HR04.out (.int .i64 most) (.slice al L.length cl) (.int .i64 h) (.int .i64 (m + 1)))
            have HC5 := Lib.hid ((HC3.out.ext HX4.out).box HR04.out hmv)
            have HR5 := Lib.hid ((HR3.out.ext HX4.out).box HR04.out hmv)
            have HF5 := Lib.hid (HF4.out.trans (hmv.below (B := w.heap.size) (fun a ha => by rw [ha]; exact HRR.out)))
            clear hmv v0 v1 v2 v3 s0 s1 s2 s3 f0 f1 f2 f3 hneR
            generalize (((w4.setCell ⟨R, 0, none⟩ (.int .i64 most)).setCell ⟨R, 1, none⟩ (.slice al L.length cl)).setCell ⟨R, 2, none⟩ (.int .i64 h)).setCell ⟨R, 3, none⟩ (.int .i64 (m + 1)) = w5 at *
            have hcv : (convert 30 9 (.slice none 0 0)).run Try.prog w5 = .ok (.string (strOfNums [])) w5 := run_convert_bytes_nil w5 30 5 Try.underlying30 Try.underlying5 0 0 9 Try.underlying9
            generalize strOfNums [] = S at *
            go_wp2_with fail
            go_loopg [15] 0 (fun g i wy => ∃ q : Nat, q + g = 0 ∧ i = .int .i64 q ∧ wy = w5)
            case atStart => exact ⟨0, rfl, rfl, rfl⟩
            case round =>
              obtain ⟨q, hq, rfl, rfl⟩ := hrel
              obtain rfl : q = 0 := by omega
              go_wp2_with fail
              go_meet
              exact Lib.hid ⟨L, D, n, h, m + 1, _, HC5.out, ⟨by omega, by omega, by omega, by omega, by omega, by omega⟩, ⟨HT.out, HL2.out⟩, HR5.out, HR05.out, HF5.out, fun _ _ _ _ => trivial⟩
          · have hlen0 : e0.bs.length ≤ 1000000 := by have := HL2.out e0 he0; omega
            have HG := Lib.hid (get_found HCa.out ⟨hh0, by omega⟩ he0 hlen0 hk0 hrun)
            have HE0 := Lib.hid he0
            have HK0 := Lib.hid hk0
            have HLE := Lib.hid (front_len he0 HCa.out.keys)
            clear hrun he0 hk0
            go_wp2_with fail
            refine HG.out.mono ?_
            rintro e wg ⟨vg, rfl, hrow, ⟨D2, hc2⟩, hf2⟩
            have hconv : ∀ w', Ext wg w' → (convert 30 9 vg).run Try.prog w' = .ok (.string (strOfNums e0.bs)) w' := by
              obtain ⟨a', c', hv⟩ : ∃ a' c', vg = .slice a' e0.bs.length c' := by obtain ⟨a', c', _, h1, _⟩ := row_x hrow; exact ⟨a', c', h1⟩
              rw [hv] at hrow ⊢
              exact fun w' he => conv_row (he.row hrow)
            have hconv2 : ∀ w' w'' : World, Ext wg w' → ∀ (R : Nat) (cs : Array Value), w'.heap[R]? = some (.cells cs 43 (0, 0)) → Mv (fun a => a.block = R) w' w'' → (convert 30 9 vg).run Try.prog w'' = .ok (.string (strOfNums e0.bs)) w'' := by
              obtain ⟨a', c', hv⟩ : ∃ a' c', vg = .slice a' e0.bs.length c' := by obtain ⟨a', c', _, h1, _⟩ := row_x hrow; exact ⟨a', c', h1⟩
              rw [hv] at hrow ⊢
              intro w' w'' he R cs hR hm
              have h1 := he.row hrow
              refine conv_row (b0 := wa.heap.size) ⟨h1.1, ?_⟩
              rcases h1.2 with h2 | ⟨g, cap, cur, h2, h3, h4, h5⟩
              · exact .inl h2
              · exact .inr ⟨g, cap, cur, h2, h3, hm.stands (t0 := 43) (fun a ha => ⟨cs, by rw [ha]; exact hR⟩) h4 (by intro c e; injection e with _ e _; cases e), h5⟩
            obtain ⟨a', c', X, rfl, hX⟩ := row_x hrow
            have HXX := Lib.hid hX
            have HCV := Lib.hid hconv2
            have HCg := Lib.hid hc2
            have HFg := Lib.hid (HFa.out.trans hf2.below)
            have HRg : Hid (RAt (fun i => 0 < e0.bs.length → i ≠ X) wg (.slice al L.length cl) L) := Lib.hid ((HRa.out.old.weaken (fun i hi hp => by have := (hX hp).2.1; omega)).fr hf2)
            have HRg0 := Lib.hid (hf2.other _ _ _ _ HRa0.out (by decide) (by decide))
            have HBXg := Lib.hid (hf2.other _ _ _ _ HBX.out (by decide) (by decide))
            have HOKL : Hid (∀ e ∈ e0 :: L.filter (fun y => y.key != e0.key), ∀ g, e.bv.ownBlock = some g → (0 < e0.bs.length → g ≠ X)) := Lib.hid (fun e he g hg hp => by
              have h1 : e ∈ L := by
                rcases List.mem_cons.1 he with rfl | he
                · exact HE0.out
                · exact (List.mem_filter.1 he).1
              have := HCa.out.old e h1 g hg
              have := (hX hp).2.1
              omega)
            clear hc2 hf2 q0 q1 q2 hX hconv hconv2 hrow
            obtain ⟨q0, q1, q2⟩ := box_cells HBXg.out
            have s0 : wg.cell? ⟨R, 0, none⟩ = some (.int .i64 most) := cell_of HRg0.out rfl
            have s1 : wg.cell? ⟨R, 1, none⟩ = some (.slice al L.length cl) := cell_of HRg0.out rfl
            have s2 : wg.cell? ⟨R, 2, none⟩ = some (.int .i64 h) := cell_of HRg0.out rfl
            have s3 : wg.cell? ⟨R, 3, none⟩ = some (.int .i64 m) := cell_of HRg0.out rfl
            go_wp2_with fail
            refine (rget_found HRg.out (fun i hi hp => by have := (HXX.out hp).2.2.1; omega) (by omega) most h m ⟨hh0, by omega⟩ HE0.out HCa.out.keys HK0.out).mono ?_
            rintro e w3 ⟨lv3, bv3, rfl, hr3, hbv3, hb3⟩
            obtain ⟨a3, c3, hlv3⟩ : ∃ a3 c3, lv3 = .slice a3 (e0 :: L.filter fun e => e.key != e0.key).length c3 := by obtain ⟨a3, c3, h1, _⟩ := hr3; exact ⟨a3, c3, h1⟩
            obtain ⟨n3, hn3⟩ : ∃ n3, Hid ((e0 :: L.filter fun e => e.key != e0.key).length = n3) := ⟨_, Lib.hid rfl⟩
            rw [hn3.out] at hlv3
            subst hlv3
            obtain ⟨b3, d3, hbv⟩ : ∃ b3 d3, bv3 = .slice (some ⟨b3, 0, none⟩) e0.bs.length d3 := by obtain ⟨b3, d3, _, h1, _⟩ := hbv3; exact ⟨b3, d3, h1⟩
            subst hbv
            have HX3 := Lib.hid (Ext.of_below hb3)
            have HC3 := Lib.hid (HCg.out.ext (Ext.of_below hb3))
            have HR3 := Lib.hid hr3
            have HV3 := Lib.hid hbv3
            have HR03 := Lib.hid (Ext.of_below hb3 _ _ HRg0.out)
            have HF3 := Lib.hid (HFg.out.trans (hb3.mono HFg.out.size))
            clear hr3 hb3 hbv3 s0 s1 s2 s3 q0 q1 q2
            unfold rv
            go_upto_region 17 with (fail)
            have HX4 : Hid (Ext w3 (w3.alloc (.cells #[.int .i64 most, .slice a3 n3 c3, .int .i64 (h + 1), .int .i64 m] 43))) := Lib.hid (Ext.of_below ((Below.refl _ _).alloc (Nat.le_refl _) _))
            have HN4 : Hid ((w3.alloc (.cells #[.int .i64 most, .slice a3 n3 c3, .int .i64 (h + 1), .int .i64 m] 43)).heap[w3.heap.size]? = some (.cells #[.int .i64 most, .slice a3 n3 c3, .int .i64 (h + 1), .int .i64 m] 43 (0, 0))) := Lib.hid (alloc_at _ _)
            have HF4 : Hid (Below w.heap.size w (w3.alloc (.cells #[.int .i64 most, .slice a3 n3 c3, .int .i64 (h + 1), .int .i64 m] 43))) := Lib.hid (HF3.out.alloc HF3.out.size _)
            generalize w3.alloc (.cells #[.int .i64 most, .slice a3 n3 c3, .int .i64 (h + 1), .int .i64 m] 43) = w4 at *
            have HR04 := Lib.hid (HX4.out _ _ HR03.out)
            have hneR : w3.heap.size ≠ R := by have := (Array.getElem?_eq_some_iff.1 HR03.out).1; omega
            have v0 : w4.cell? ⟨w3.heap.size, 0, none⟩ = some (.int .i64 most) := cell_of HN4.out rfl
            have v1 : w4.cell? ⟨w3.heap.size, 1, none⟩ = some (.slice a3 n3 c3) := cell_of HN4.out rfl
            have v2 : w4.cell? ⟨w3.heap.size, 2, none⟩ = some (.int .i64 (h + 1)) := cell_of HN4.out rfl
            have v3 : w4.cell? ⟨w3.heap.size, 3, none⟩ = some (.int .i64 m) := cell_of HN4.out rfl
            have s0 : w4.cell? ⟨R, 0, none⟩ = some (.int .i64 most) := cell_of HR04.out rfl
            have s1 : w4.cell? ⟨R, 1, none⟩ = some (.slice al L.length cl) := cell_of HR04.out rfl
            have s2 : w4.cell? ⟨R, 2, none⟩ = some (.int .i64 h) := cell_of HR04.out rfl
            have s3 : w4.cell? ⟨R, 3, none⟩ = some (.int .i64 m) := cell_of HR04.out rfl
            have f0 := frozen_at HR04.out 0
            have f1 := frozen_at HR04.out 1
            have f2 := frozen_at HR04.out 2
            have f3 := frozen_at HR04.out 3
            go_upto_region 18 with (fail)
            have hmv := rput_mv w4 R (.int .i64 most) (.slice a3 n3 c3) (.int .i64 (h + 1)) (.int .i64 m)
            have HR05 := Lib.hid (rput_blk HR04.out (.int .i64 most) (.slice a3 n3 c3) (.int .i64 (h + 1)) (.int .i64 m))
            have HC5 := Lib.hid ((HC3.out.ext HX4.out).box HR04.out hmv)
            have HR5 := Lib.hid ((HR3.out.ext HX4.out).box HR04.out hmv)
            have HF5 := Lib.hid (HF4.out.trans (hmv.below (B := w.heap.size) (fun a ha => by rw [ha]; exact HRR.out)))
            have HXR : Hid (0 < e0.bs.length → XRow X e0.bs.length _) := Lib.hid (fun hp => (((HXX.out hp).2.2.2.ext HX3.out).ext HX4.out).box HR04.out hmv)
            have hcv1 := HCV.out _ _ (fun i o hh => HX4.out i o (HX3.out i o hh)) R _ HR04.out hmv
            have hcv2 := conv_bat ((HV3.out.ext HX4.out).box HR04.out hmv)
            clear hmv v0 v1 v2 v3 s0 s1 s2 s3 f0 f1 f2 f3 hneR
            generalize (((w4.setCell ⟨R, 0, none⟩ (.int .i64 most)).setCell ⟨R, 1, none⟩ (.slice a3 n3 c3)).setCell ⟨R, 2, none⟩ (.int .i64 (h + 1))).setCell ⟨R, 3, none⟩ (.int .i64 m) = w5 at *
            generalize strOfNums e0.bs = S at *
            have hlen2 := HL2.out e0 HE0.out
            have HHP : Hid (HeadP C M R most (k + 1) (fun i => 0 < e0.bs.length → i ≠ X) w w5) := by
              refine Lib.hid ⟨_, D2, n, h + 1, m, _, HC5.out, ⟨by omega, ?_, by omega, by omega, by omega, by omega⟩, ⟨?_, fun e he => ?_⟩, HR5.out, HR05.out, HF5.out, HOKL.out⟩
              · rw [HLE.out]; omega
              · rw [front_total HE0.out HCa.out.keys]; exact HT.out
              · rcases List.mem_cons.1 he with rfl | he
                · exact hlen2
                · exact HL2.out e (List.mem_filter.1 he).1
            have HXB : Hid (0 < e0.bs.length → w.heap.size ≤ X ∧ ∃ cs, w5.heap[X]? = some (.cells cs 5 (0, 0))) := Lib.hid (fun hp => by
              obtain ⟨cs, h1, _⟩ := HXR.out hp
              exact ⟨by have := (HXX.out hp).2.1; have := HFa.out.size; omega, cs, h1⟩)
            have HAX : Hid (0 < e0.bs.length → a' = some ⟨X, 0, none⟩) := Lib.hid (fun hp => (HXX.out hp).1)
            have HBU := Lib.hid (XRow.bump HXR.out)
            clear HXR HC5 HR5 HR05 HF5 HOKL HXX HCV HCg HFg HRg HRg0 HBXg HX3 HC3 HR3 HV3 HR03 HF3 HX4 HN4 HF4 HR04
            generalize e0.bs.length = nb at *
            go_wp2_with fail
            go_loopg [15] nb (fun g i wy => ∃ q : Nat, q + g = nb ∧ i = .int .i64 q ∧ Hid (Bump X nb w5 wy))
            case atStart => exact ⟨0, by omega, rfl, HBU⟩
            case round =>
              obtain ⟨q, hq, rfl, HBW⟩ := hrel
              by_cases hql : q < nb
              · obtain rfl := HAX.out (by omega)
                obtain ⟨cs5, h5⟩ := (HXB.out (by omega)).2
                obtain ⟨z, hz⟩ := HBW.out.2 q hql
                have hfz := HBW.out.free h5 q
                go_wp2_with fail
                go_roundg (nb - (q + 1))
                case measure => omega
                case rel => exact ⟨q + 1, by omega, by go_num, Lib.hid (HBW.out.set hql _)⟩
              · obtain rfl : q = nb := by omega
                go_wp2_with fail
                go_meet
                exact Lib.hid (HHP.out.bump HBW.out HXB.out)
        · by_cases hd1 : d = 1
          · subst hd1
            have hlen : bs.length = bl := HOKa.out.b.1
            subst hlen
            clear hd
            have H5 : Hid (∀ bb, ba = some bb → ∀ j u, (bs.map (Value.int .u8))[j]? = some u → (wa.alloc (.cells #[] 5)).cell? (bb.add j) = some u) := Lib.hid (fun bb hbb j u hj => (Ext.of_below ((Below.refl _ wa).alloc (Nat.le_refl _) _)).cell (HOKa.out.b.news bb hbb j u hj))
            have k2 : (wa.alloc (.cells #[] 5)).cell? ⟨A, 2, none⟩ = some (.slice ba bs.length bc) := (Ext.of_below ((Below.refl _ wa).alloc (Nat.le_refl _) _)).cell q2
            have H5N := Lib.hid HOKa.out.b.none
            have H5L : Hid ((bs.map (Value.int .u8)).length = bs.length * 1) := Lib.hid (by simp)
            have H51 : Hid (∀ u ∈ bs.map (Value.int .u8), u.oneCell' = true) := Lib.hid (by intro u hu; obtain ⟨z, _, rfl⟩ := List.mem_map.1 hu; rfl)
            go_wp2_with (at_builtin; refine wpList_append_src rfl _ _ 30 rfl wa.heap.size 5 i5 (.int .u8 0) 1 1 Try.underlying30 hi5 hy0 hy1 hy2 rfl (by decide) _ _ _ rfl (World.ownsRow_made wa #[] 0 (Nat.le_refl _) (by decide) rfl) ba bs.length bc _ rfl H5N.out H5L.out H5.out H51.out ?c3 ?c4 ?c5 ?_)
            case c3 => unfold maxLen; omega
            case c4 => omega
            intro v' w5 hown hgrow hne
            have hb5 : Below wa.heap.size wa w5 := ((Below.refl _ _).alloc (Nat.le_refl _) _).grown hgrow (by simp) (fun k hk => by simp [Value.ownBlock] at hk; omega)
            obtain ⟨X, cX, hvX⟩ : ∃ X cX, v' = .slice (some ⟨X, 0, none⟩) bs.length cX := by
              rcases hown.2 with h1 | ⟨g7, c7, _, h1, _⟩
              · exact absurd h1.1 (by simpa using hne)
              · exact ⟨g7, c7, h1⟩
            subst hvX
            obtain ⟨_, _, X2, hv2, hX2⟩ := row_x hown
            injection hv2 with e1 _ e3
            have hX1 : 0 < bs.length → wa.heap.size ≤ X ∧ X < w5.heap.size ∧ XRow X bs.length w5 := by
              intro hp
              obtain ⟨g1, g2, g3, g4⟩ := hX2 hp
              rw [← e1] at g1
              injection g1 with g1
              injection g1 with g1
              subst g1
              exact ⟨g2, g3, g4⟩
            have HXX := Lib.hid hX1
            have HE5 := Lib.hid (Ext.of_below hb5)
            have HW5 := Lib.hid (hb5.mono HFa.out.size)
            have HF5 := Lib.hid (HFa.out.trans HW5.out)
            have HBX5 := Lib.hid (HE5.out _ _ HBX.out)
            have HR05 := Lib.hid (HE5.out _ _ HRa0.out)
            have HR5 : Hid (RAt (fun i => 0 < bs.length → i ≠ X) w5 (.slice al L.length cl) L) := Lib.hid ((HRa.out.old.weaken (fun i hi hp => by have := (hX1 hp).1; omega)).ext HE5.out)
            have hfa := HFa.out.size
            have HPB := Lib.hid (put_both (lv := .slice al L.length cl) (ok := fun i => 0 < bs.length → i ≠ X) (HCa.out.ext HE5.out) h0 HT.out hmost (by omega) (by omega) HL2.out HOKa.out.wk hbl (X := X) (c := cX) (bs := bs)
              (by refine ⟨hown.1, ?_⟩
                  rcases hown.2 with h1 | ⟨g, cap, cur, h1, h2, h3⟩
                  · exact .inl h1
                  · exact .inr ⟨g, cap, cur, h1, by omega, h3⟩)
              (fun e he g hg hp => by have := HCa.out.old e he g hg; have := (hX1 hp).1; omega) (fun i hi hp => by have := (hX1 hp).2.1; omega))
            clear hown hgrow hne hb5 hX1 hX2 e1 e3 q0 q1 q2 hfa k2
            obtain ⟨q0, q1, q2⟩ := box_cells HBX5.out
            go_wp2_with fail
            refine HPB.out.mono ?_
            rintro e w6 ⟨rfl, hf6, L', D', n', hn', hc6, ⟨hl6, hT6, hb6, ho6⟩, hput⟩
            have HC6 := Lib.hid hc6
            have HO6 := Lib.hid ho6
            have HT6 := Lib.hid hT6
            have HL6 := Lib.hid hb6
            have HFF := Lib.hid hf6
            have HF6 := Lib.hid (HF5.out.trans hf6.below)
            have HBX6 := Lib.hid (hf6.other _ _ _ _ HBX5.out (by decide) (by decide))
            have HR06 := Lib.hid (hf6.other _ _ _ _ HR05.out (by decide) (by decide))
            have HR6 := Lib.hid (HR5.out.fr hf6)
            have HRP := Lib.hid (hput w6 ba bc HR6.out ((HOKa.out.b.below (HW5.out.trans hf6.below)).up HF6.out.size) (fun i hi hp => by have := (HXX.out hp).2.1; have := hf6.below.size; omega))
            clear hc6 ho6 hT6 hb6 hf6 hput q0 q1 q2
            obtain ⟨q0, q1, q2⟩ := box_cells HBX6.out
            have s0 : w6.cell? ⟨R, 0, none⟩ = some (.int .i64 most) := cell_of HR06.out rfl
            have s1 : w6.cell? ⟨R, 1, none⟩ = some (.slice al L.length cl) := cell_of HR06.out rfl
            have s2 : w6.cell? ⟨R, 2, none⟩ = some (.int .i64 h) := cell_of HR06.out rfl
            have s3 : w6.cell? ⟨R, 3, none⟩ = some (.int .i64 m) := cell_of HR06.out rfl
            go_wp2_with fail
            refine (num_any _ _).mono ?_
            rintro e w6' ⟨rfl, rfl⟩
            go_wp2_with fail
            refine HRP.out.mono ?_
            rintro e w7 ⟨lv7, rfl, hr7, hb7⟩
            obtain ⟨a7, c7, hlv7⟩ : ∃ a7 c7, lv7 = .slice a7 L'.length c7 := by obtain ⟨a3, c3, h1, _⟩ := hr7; exact ⟨a3, c3, h1⟩
            subst hlv7
            have HX7 := Lib.hid (Ext.of_below hb7)
            have HR7 := Lib.hid hr7
            have HC7 := Lib.hid (HC6.out.ext HX7.out)
            have HR07 := Lib.hid (HX7.out _ _ HR06.out)
            have HF7 := Lib.hid (HF6.out.trans (hb7.mono HF6.out.size))
            clear hr7 hb7 q0 q1 q2 s0 s1 s2 s3
            have s0 : w7.cell? ⟨R, 0, none⟩ = some (.int .i64 most) := cell_of HR07.out rfl
            have s1 : w7.cell? ⟨R, 1, none⟩ = some (.slice al L.length cl) := cell_of HR07.out rfl
            have s2 : w7.cell? ⟨R, 2, none⟩ = some (.int .i64 h) := cell_of HR07.out rfl
            have s3 : w7.cell? ⟨R, 3, none⟩ = some (.int .i64 m) := cell_of HR07.out rfl
            have f0 := frozen_at HR07.out 0
            have f1 := frozen_at HR07.out 1
            have f2 := frozen_at HR07.out 2
            have f3 := frozen_at HR07.out 3
            unfold rv
            go_upto_region 29 with (fail)
            have hmv := rput_mv w7 R (.int .i64 most) (.slice a7 L'.length c7) (.int .i64 h) (.int .i64 m)
            have HR08 := Lib.hid (rput_blk HR07.out (.int .i64 most) (.slice a7 L'.length c7) (.int .i64 h) (.int .i64 m))
            have HC8 := Lib.hid (HC7.out.box HR07.out hmv)
            have HR8 := Lib.hid (HR7.out.box HR07.out hmv)
            have HF8 := Lib.hid (HF7.out.trans (hmv.below (B := w.heap.size) (fun a ha => by rw [ha]; exact HRR.out)))
            have HXR : Hid (0 < bs.length → XRow X bs.length _) := Lib.hid (fun hp => (((HXX.out hp).2.2.fr HFF.out).ext HX7.out).box HR07.out hmv)
            clear hmv s0 s1 s2 s3 f0 f1 f2 f3
            generalize (((w7.setCell ⟨R, 0, none⟩ (.int .i64 most)).setCell ⟨R, 1, none⟩ (.slice a7 L'.length c7)).setCell ⟨R, 2, none⟩ (.int .i64 h)).setCell ⟨R, 3, none⟩ (.int .i64 m) = w8 at *
            have HHP : Hid (HeadP C M R most (k + 1) (fun i => 0 < bs.length → i ≠ X) w w8) :=
              Lib.hid ⟨L', D', n', h, m, _, HC8.out, ⟨by omega, by omega, by omega, by omega, by omega, by omega⟩, ⟨HT6.out, HL6.out⟩, HR8.out, HR08.out, HF8.out, HO6.out⟩
            have HXB : Hid (0 < bs.length → w.heap.size ≤ X ∧ ∃ cs, w8.heap[X]? = some (.cells cs 5 (0, 0))) := Lib.hid (fun hp => by
              obtain ⟨cs, h1, _⟩ := HXR.out hp
              exact ⟨by have := (HXX.out hp).1; have := HFa.out.size; omega, cs, h1⟩)
            have HBU := Lib.hid (XRow.bump HXR.out)
            clear HXR HC8 HR8 HR08 HF8 HXX HX7 HR7 HC7 HR07 HF7 HRP HPB HR6 HR06 HC6 HF6 HBX6 HO6 HT6 HL6 HFF HBX5 HR05 HR5 HW5 HF5 HE5 H5 H5N H5L H51
            generalize bs.length = nb at *
            go_wp2_with fail
            go_loopg [17] nb (fun g i wy => ∃ q : Nat, q + g = nb ∧ i = .int .i64 q ∧ Hid (Bump X nb w8 wy))
            case atStart => exact ⟨0, by omega, rfl, HBU⟩
            case round =>
              obtain ⟨q, hq, rfl, HBW⟩ := hrel
              by_cases hql : q < nb
              · obtain ⟨cs5, h5⟩ := (HXB.out (by omega)).2
                obtain ⟨z, hz⟩ := HBW.out.2 q hql
                have hfz := HBW.out.free h5 q
                go_wp2_with fail
                go_roundg (nb - (q + 1))
                case measure => omega
                case rel => exact ⟨q + 1, by omega, by go_num, Lib.hid (HBW.out.set hql _)⟩
              · obtain rfl : q = nb := by omega
                go_wp2_with fail
                go_meet
                exact Lib.hid (HHP.out.bump HBW.out HXB.out)
          · have hd0 : (d == 0) = false := beq_eq_false_iff_ne.2 hd
            have hd1' : (d == 1) = false := beq_eq_false_iff_ne.2 hd1
            clear hd hd1
            by_cases hd2 : d = 2
            · subst hd2
              have HDP := Lib.hid (drop_any HCa.out (by have := HT.out; omega) HOKa.out.wk)
              clear hd0 hd1'
              go_wp2_with fail
              refine HDP.out.mono ?_
              rintro e w6 ⟨rfl, ⟨D', hc6⟩, hf6⟩
              have HC6 := Lib.hid hc6
              have HF6 := Lib.hid (HFa.out.trans hf6.below)
              have HBX6 := Lib.hid (hf6.other _ _ _ _ HBX.out (by decide) (by decide))
              have HR06 := Lib.hid (hf6.other _ _ _ _ HRa0.out (by decide) (by decide))
              have HRP := Lib.hid (rdrop_any (HRa.out.fr hf6) (fun _ _ => trivial) (by omega) most h m ky)
              clear hc6 hf6 q0 q1 q2
              obtain ⟨q0, q1, q2⟩ := box_cells HBX6.out
              have s0 : w6.cell? ⟨R, 0, none⟩ = some (.int .i64 most) := cell_of HR06.out rfl
              have s1 : w6.cell? ⟨R, 1, none⟩ = some (.slice al L.length cl) := cell_of HR06.out rfl
              have s2 : w6.cell? ⟨R, 2, none⟩ = some (.int .i64 h) := cell_of HR06.out rfl
              have s3 : w6.cell? ⟨R, 3, none⟩ = some (.int .i64 m) := cell_of HR06.out rfl
              go_wp2_with fail
              refine HRP.out.mono ?_
              rintro e w7 ⟨lv7, rfl, hr7, hb7⟩
              obtain ⟨n7, hn7⟩ : ∃ n7, Hid ((L.filter fun e => e.key != ky).length = n7) := ⟨_, Lib.hid rfl⟩
              obtain ⟨a7, c7, hlv7⟩ : ∃ a7 c7, lv7 = .slice a7 (L.filter fun e => e.key != ky).length c7 := by obtain ⟨a3, c3, h1, _⟩ := hr7; exact ⟨a3, c3, h1⟩
              rw [hn7.out] at hlv7
              subst hlv7
              have HX7 := Lib.hid (Ext.of_below hb7)
              have HR7 := Lib.hid hr7
              have HC7 := Lib.hid (HC6.out.ext HX7.out)
              have HR07 := Lib.hid (HX7.out _ _ HR06.out)
              have HF7 := Lib.hid (HF6.out.trans (hb7.mono HF6.out.size))
              clear hr7 hb7 q0 q1 q2 s0 s1 s2 s3
              have s0 : w7.cell? ⟨R, 0, none⟩ = some (.int .i64 most) := cell_of HR07.out rfl
              have s1 : w7.cell? ⟨R, 1, none⟩ = some (.slice al L.length cl) := cell_of HR07.out rfl
              have s2 : w7.cell? ⟨R, 2, none⟩ = some (.int .i64 h) := cell_of HR07.out rfl
              have s3 : w7.cell? ⟨R, 3, none⟩ = some (.int .i64 m) := cell_of HR07.out rfl
              have f0 := frozen_at HR07.out 0
              have f1 := frozen_at HR07.out 1
              have f2 := frozen_at HR07.out 2
              have f3 := frozen_at HR07.out 3
              unfold rv
              go_wp2_with fail
              have hmv := rput_mv w7 R (.int .i64 most) (.slice a7 n7 c7) (.int .i64 h) (.int .i64 m)
              have HR08 := Lib.hid (rput_blk HR07.out (.int .i64 most) (.slice a7 n7 c7) (.int .i64 h) (.int .i64 m))
              have HC8 := Lib.hid (HC7.out.box HR07.out hmv)
              have HR8 := Lib.hid (HR7.out.box HR07.out hmv)
              have HF8 := Lib.hid (HF7.out.trans (hmv.below (B := w.heap.size) (fun a ha => by rw [ha]; exact HRR.out)))
              have hlf : (L.filter fun e => e.key != ky).length ≤ L.length := List.length_filter_le _ _
              have htf := filter_total L (fun e => e.key != ky)
              go_meet
              exact Lib.hid ⟨_, D', n, h, m, _, HC8.out, ⟨by omega, by omega, by omega, by omega, by omega, by omega⟩, ⟨by have := HT.out; omega, fun e he => HL2.out e (List.mem_filter.1 he).1⟩, HR8.out, HR08.out, HF8.out, fun _ _ _ _ => trivial⟩
            · have hd2' : (d == 2) = false := beq_eq_false_iff_ne.2 hd2
              clear hd2
              go_wp2_with fail
              go_meet
              exact Lib.hid ⟨L, D, n, h, m, _, HCa.out, ⟨by omega, by omega, by omega, by omega, by omega, by omega⟩, ⟨HT.out, HL2.out⟩, HRa.out, HRa0.out, HFa.out, fun _ _ _ _ => trivial⟩
      case rest =>
        obtain ⟨L1, D1, n1, h1, m1, lv1, hc1, ⟨hn1, hLk1, _, _, _, _⟩, ⟨hT1, _⟩, hr1, hR01, hF1, _⟩ := hcut.out
        have s0 : wc.cell? ⟨R, 0, none⟩ = some (.int .i64 most) := cell_of hR01 rfl
        have s1 : wc.cell? ⟨R, 1, none⟩ = some lv1 := cell_of hR01 rfl
        have s2 : wc.cell? ⟨R, 2, none⟩ = some (.int .i64 h1) := cell_of hR01 rfl
        have s3 : wc.cell? ⟨R, 3, none⟩ = some (.int .i64 m1) := cell_of hR01 rfl
        have HSM := Lib.hid (same_any hc1 hr1 (by omega) (by omega))
        clear hc1 hT1 hr1 hR01 hF1
        go_wp2_with fail
        refine HSM.out.mono ?_
        rintro e w9 ⟨rfl, hb9⟩
        have HB9 := Lib.hid hb9
        clear hb9
        go_wp2_with fail
        go_roundg (len - (k + 1))
        case measure => omega
        case rel => exact ⟨k + 1, by omega, by go_num, Lib.hid (hcut.out.ext HB9.out)⟩
    · obtain rfl : k = len := by omega
      have HB := Lib.hid (show Below w.heap.size w wr from by obtain ⟨_, _, _, _, _, _, _, _, _, _, _, hf, _⟩ := hH.out; exact hf)
      clear hH
      go_wp2_with fail
      refine (live_any _).mono ?_
      rintro e w9 ⟨rfl, hb⟩
      have HB9 := Lib.hid hb
      clear hb
      go_wp2_with fail
      go_ret
      exact ⟨rfl, HB.out.trans (HB9.out.mono HB.out.size)⟩

theorem plays_walk (most : Int) (a : Option Addr) (len cap : Nat) (acts : List ActD) (w : World) (h : ActsAt w.heap.size w a len acts) :
    Calls Try.prog 4 #[.int .i64 most, .slice a len cap] w fun e w' => e = .returned (.bool true) ∧ Below w.heap.size w w' := by
  cases hm : muchB acts
  · by_cases h1 : most < 0 ∨ 8388608 < most
    · exact plays_bad most a len cap acts w h hm h1
    · exact plays_loop most a len cap acts w h hm (by omega) (by omega)
  · exact plays_much most a len cap acts w h hm
end Go.Proofs.Ytdodjjnejpdgcaa
