/- The law's 'same': a cache and the reference's. -/
import Derived.Test.YtdodjjnejpdgcaaO
import Derived.Deep.QuietTactic
import Derived.BigQuiet
namespace Go.Proofs.Ytdodjjnejpdgcaa
open Go.RowKit Go.Maps

theorem row_slice {w : World} {B : Nat} {vk : Value} {n : Nat} {xs : List Value} (h : w.ownsRow B 3 1 vk n xs) : ∃ a c, vk = .slice a n c ∧ ∀ k, k < n → ∃ g, a = some ⟨g, 0, none⟩ ∧ ∀ w', Ext w w' → ∀ u, xs[k]? = some u → w'.cell? ⟨g, k, none⟩ = some u := by
  have h0 := h
  rcases h.2 with ⟨h1, h2⟩ | ⟨g, cap, cur, h1, _⟩
  · exact ⟨none, 0, by rw [h1, h2], fun k hk => by omega⟩
  · refine ⟨_, cap, h1, fun k hk => ⟨g, rfl, fun w' he u hu => ?_⟩⟩
    have h3 := h0.cells (g := g) (by rw [h1]; rfl) k u hu
    rw [addr_add, Nat.zero_add] at h3
    exact he.cell h3

set_option maxHeartbeats 1600000 in
theorem same_any {ok : Nat → Prop} {B : Nat} {w : World} {C M n : Nat} {most hits misses : Int} {L : List Ent} {D : DataW Unit} {lv : Value}
    (h : CacheAt B w C M n most hits misses L D) (hR : RAt ok w lv L) (hL : L.length ≤ 1000) (hT : total L ≤ 1000000000) :
    Calls Try.prog 18 #[.pointer (some ⟨C, 0, none⟩), rv most lv hits misses] w fun e w' => e = .returned (.bool true) ∧ Below w.heap.size w w' := by
  have HC := Lib.hid h
  have HR := Lib.hid hR
  obtain ⟨a, c, rfl, _, _, h2⟩ := hR
  have HN : Hid (∀ i (_ : i < L.length), ∃ g, a = some ⟨g, 0, none⟩ ∧ ∀ w', Ext w w' → w'.cell? ⟨g, i * 2, none⟩ = some (.int .i64 L[i].key)) := Lib.hid (by
    intro i hi
    rcases h2 with rfl | ⟨g, cs, rfl, _, h5, h6⟩
    · simp at hi
    · exact ⟨g, rfl, fun w' he => he.cell (cell_of h5 (h6 i hi).1)⟩)
  have HT := Lib.hid hT
  clear h h2 hT
  unfold rv
  obtain ⟨n0, hn0⟩ : ∃ n0, Hid (L.length = n0) := ⟨_, Lib.hid rfl⟩
  rw [hn0.out] at hL HR ⊢
  go_enter Try.func18, Try.ntmps18
  go_wp2_with fail
  have HE1 : Hid (Below w.heap.size w (w.alloc (.cells #[.int .i64 most, .slice a n0 c, .int .i64 hits, .int .i64 misses] 43))) := Lib.hid ((Below.refl _ w).alloc (Nat.le_refl _) _)
  have HB1 : Hid ((w.alloc (.cells #[.int .i64 most, .slice a n0 c, .int .i64 hits, .int .i64 misses] 43)).heap[w.heap.size]? = some (.cells #[.int .i64 most, .slice a n0 c, .int .i64 hits, .int .i64 misses] 43 (0, 0))) := Lib.hid (alloc_at _ _)
  generalize w.alloc (.cells #[.int .i64 most, .slice a n0 c, .int .i64 hits, .int .i64 misses] 43) = w1 at *
  go_wp2_with fail
  refine (keys_any (HC.out.ext (Ext.of_below HE1.out)) (by rw [hn0.out]; omega)).mono ?_
  rintro e w2 ⟨vk, rfl, hrk, hb2⟩
  obtain ⟨a2, c2, rfl, hk2⟩ := row_slice hrk
  rw [hn0.out] at hk2 ⊢
  have HK : Hid (∀ k (_ : k < L.length), ∃ g, a2 = some ⟨g, 0, none⟩ ∧ ∀ w', Ext w2 w' → w'.cell? ⟨g, k, none⟩ = some (.int .i64 L[k].key)) := Lib.hid (by
    intro k hk
    obtain ⟨g, h1, h3⟩ := hk2 k (by rw [← hn0.out]; exact hk)
    exact ⟨g, h1, fun w' he => h3 w' he _ (by simp [hk])⟩)
  have HE2 := Lib.hid (HE1.out.trans (hb2.mono HE1.out.size))
  have HB2 := Lib.hid ((Ext.of_below hb2) _ _ HB1.out)
  clear hrk hb2 hk2
  go_wp2_with fail
  refine (told_any (HC.out.ext (Ext.of_below HE2.out))).mono ?_
  rintro e w3 ⟨rfl, m3, hm3⟩
  have HE3 : Hid (Below w.heap.size w w3) := Lib.hid (by rw [hm3]; exact below_drewN HE2.out m3)
  have HX3 : Hid (Ext w2 w3) := Lib.hid (by rw [hm3]; exact ext_drewN _ _)
  have HB3 := Lib.hid (HX3.out _ _ HB2.out)
  clear hm3
  have s0 : w3.cell? ⟨w.heap.size, 0, none⟩ = some (.int .i64 most) := cell_of HB3.out rfl
  have s1 : w3.cell? ⟨w.heap.size, 1, none⟩ = some (.slice a n0 c) := cell_of HB3.out rfl
  have s2 : w3.cell? ⟨w.heap.size, 2, none⟩ = some (.int .i64 hits) := cell_of HB3.out rfl
  have s3 : w3.cell? ⟨w.heap.size, 3, none⟩ = some (.int .i64 misses) := cell_of HB3.out rfl
  have HSS : Hid (w3.cell? ⟨w.heap.size, 0, none⟩ = some (.int .i64 most) ∧ w3.cell? ⟨w.heap.size, 1, none⟩ = some (.slice a n0 c) ∧ w3.cell? ⟨w.heap.size, 2, none⟩ = some (.int .i64 hits) ∧ w3.cell? ⟨w.heap.size, 3, none⟩ = some (.int .i64 misses)) := Lib.hid ⟨s0, s1, s2, s3⟩
  have HBY := Lib.hid (bytes_any ((HC.out.ext (Ext.of_below HE3.out)).ext (ext_drewN w3 1)))
  have HRY := Lib.hid (rbytes_any (w := w3.drew) ((HR.out.ext (Ext.of_below HE3.out)).ext (ext_drewN w3 1)) (by rw [hn0.out]; exact hL) HT.out most hits misses)
  have HEA : Hid (Ext w3 (w3.alloc (.cells #[.int .i64 most, .slice a n0 c, .int .i64 hits, .int .i64 misses] 43)).drew) := Lib.hid (Ext.of_below (below_drewN ((Below.refl _ w3).alloc (Nat.le_refl _) _) 1))
  have HBZ := Lib.hid (bytes_any ((HC.out.ext (Ext.of_below HE3.out)).ext HEA.out))
  have HBA : Hid (Below w.heap.size w (w3.alloc (.cells #[.int .i64 most, .slice a n0 c, .int .i64 hits, .int .i64 misses] 43)).drew) := Lib.hid (below_drewN (HE3.out.alloc HE3.out.size _) 1)
  have HB4 := Lib.hid (HEA.out _ _ HB3.out)
  have HSA : Hid ((w3.alloc (.cells #[.int .i64 most, .slice a n0 c, .int .i64 hits, .int .i64 misses] 43)).drew.cell? ⟨w.heap.size, 0, none⟩ = some (.int .i64 most) ∧ (w3.alloc (.cells #[.int .i64 most, .slice a n0 c, .int .i64 hits, .int .i64 misses] 43)).drew.cell? ⟨w.heap.size, 1, none⟩ = some (.slice a n0 c) ∧ (w3.alloc (.cells #[.int .i64 most, .slice a n0 c, .int .i64 hits, .int .i64 misses] 43)).drew.cell? ⟨w.heap.size, 2, none⟩ = some (.int .i64 hits) ∧ (w3.alloc (.cells #[.int .i64 most, .slice a n0 c, .int .i64 hits, .int .i64 misses] 43)).drew.cell? ⟨w.heap.size, 3, none⟩ = some (.int .i64 misses)) := Lib.hid ⟨cell_of HB4.out rfl, cell_of HB4.out rfl, cell_of HB4.out rfl, cell_of HB4.out rfl⟩
  obtain ⟨t, ht⟩ : ∃ t, Hid (total L = t) := ⟨_, Lib.hid rfl⟩
  rw [ht.out] at HBY HRY HBZ
  go_upto_region 3 with (fail)
  go_region_held3 (fun w' => w'.cell? ⟨w.heap.size, 0, none⟩ = some (.int .i64 most) ∧ w'.cell? ⟨w.heap.size, 1, none⟩ = some (.slice a n0 c) ∧ w'.cell? ⟨w.heap.size, 2, none⟩ = some (.int .i64 hits) ∧ w'.cell? ⟨w.heap.size, 3, none⟩ = some (.int .i64 misses)) (first | exact HSS.out | exact HSA.out)
    (first | (go_at_call 24; refine HRY.out.mono ?_; rintro e w' ⟨rfl, rfl⟩) | (go_at_call 12; first | (refine HBY.out.mono ?_; rintro e w' ⟨rfl, rfl⟩) | (refine HBZ.out.mono ?_; rintro e w' ⟨rfl, rfl⟩)))
  have HX4 := Lib.hid (fun i o h => HEA.out i o (HX3.out i o h))
  have HE4 := HBA
  clear HBY HRY HBZ HSS HSA s0 s1 s2 s3
  generalize (w3.alloc (.cells #[.int .i64 most, .slice a n0 c, .int .i64 hits, .int .i64 misses] 43)).drew = w4 at *
  go_wp2_with fail
  go_loopg [8] n0 (fun g i wr => ∃ k : Nat, k + g = n0 ∧ i = .int .i64 k ∧ Hid (∃ m, wr = w4.drewN m))
  case atStart => exact ⟨0, by omega, rfl, Lib.hid ⟨0, rfl⟩⟩
  case round =>
    obtain ⟨k, hkg, rfl, HD⟩ := hrel
    have HEX : Hid (Ext w4 wr) := by obtain ⟨m, hm⟩ := HD.out; rw [hm]; exact Lib.hid (ext_drewN _ _)
    have HBW : Hid (Below w.heap.size w wr) := by obtain ⟨m, hm⟩ := HD.out; rw [hm]; exact Lib.hid (below_drewN HE4.out _)
    by_cases hlt : k < n0
    · have hk' : k < L.length := by rw [hn0.out]; exact hlt
      obtain ⟨g2, rfl, hx⟩ := HK.out k hk'
      obtain ⟨g, rfl, hy⟩ := HN.out k hk'
      have x0 := hx wr (fun i o h => HEX.out i o (HX4.out i o h))
      have y0 := hy wr (Ext.of_below HBW.out)
      have z0 : wr.cell? ⟨w.heap.size, 1, none⟩ = some (.slice (some ⟨g, 0, none⟩) n0 c) := cell_of (HEX.out _ _ HB4.out) rfl
      clear hx hy
      generalize L[k].key = kk at *
      go_wp2_with fail
      go_quiet (fail)
      all_goals (try go_wp2_with fail)
      all_goals go_roundg (n0 - (k + 1))
      case measure => omega
      case rel => exact ⟨k + 1, by omega, by go_num, Lib.hid (by obtain ⟨mm, hmm⟩ := HD.out; rw [hmm]; exact ⟨_, by simp; rfl⟩)⟩
    · obtain rfl : k = n0 := by omega
      go_wp2_with fail
      go_ret
      exact ⟨rfl, HBW.out⟩
end Go.Proofs.Ytdodjjnejpdgcaa
