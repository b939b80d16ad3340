/- The page's example ('live'), and nil caches. -/
import Derived.Test.YtdodjjnejpdgcaaG
namespace Go.Proofs.Ytdodjjnejpdgcaa
open Go.RowKit Go.Maps

theorem num_any (x : Int) (w : World) : Calls Try.prog 9 #[.int .i64 x] w fun e w' => e = .returned (.int .i64 x) ∧ w = w' := by
  go_enter Try.func9, Try.ntmps9
  go_wp2
  go_ret
  exact ⟨rfl, rfl⟩

section
variable {B : Nat} {w : World} {C M n : Nat} {most hits misses : Int} {L : List Ent} {D : DataW Unit}

/-- a slice of bytes that the law itself has made: it can be copied as long as no block of bytes turns -/
theorem clone_made (cs : Array Value) (bs : List Int) (c : Nat) (W : World) (b : Nat) (hb : W.heap[b]? = some (.cells cs 5 (0, 0))) (hcs : cs.toList = bs.map (Value.int .u8)) (hl : bs.length ≤ 1000000) :
    ∀ w', Fr B W w' → Calls Try.prog 20 #[.slice (some ⟨b, 0, none⟩) bs.length c] w' (ClonePost bs w') := by
  intro w' hf
  refine clone_some _ c bs w' (.inr ⟨b, 0, rfl, fun j hj => ?_⟩) hl
  have h2 := hf.other b cs 5 (0, 0) hb (by decide) (by decide)
  have h3 : cs[j]? = some (.int .u8 (bs.getD j 0)) := by
    rw [← Array.getElem?_toList, hcs, List.getElem?_map, List.getElem?_eq_getElem hj]
    simp [List.getElem?_eq_getElem hj]
  simp [World.cell?, h2, h3]

theorem get_any (h : CacheAt B w C M n most hits misses L D) {x : Ent} (he : x ∈ L) (hh : 0 ≤ hits ∧ hits ≤ 1000000) (hx : x.bs.length ≤ 1000000) :
    Calls Try.prog 13 #[.pointer (some ⟨C, 0, none⟩), .int .i64 x.key] w (HitPost B C M n most hits misses L x w) := by
  rcases h.look (h.body.els x he).wf with ⟨h1, _⟩ | ⟨e, he', hk, hrun⟩
  · have := List.any_eq_false.1 h1 x he
    simp at this
  · have : e = x := by
      have hk2 := h.keys
      obtain ⟨L1, L2, rfl⟩ := List.append_of_mem he
      rw [List.map_append, List.map_cons] at hk2
      obtain ⟨_, n2, n3⟩ := List.nodup_append.1 hk2
      have n4 := (List.nodup_cons.1 n2).1
      rcases List.mem_append.1 he' with h2 | h2
      · exact absurd hk (fun e1 => n3 _ (List.mem_map_of_mem h2) x.key (by simp) e1)
      · rcases List.mem_cons.1 h2 with h2 | h2
        · exact h2
        · exact absurd (hk ▸ List.mem_map_of_mem h2) n4
    subst this
    exact get_hit h hh he' hx hrun
end

theorem alloc_at (w : World) (o : Obj) : (w.alloc o).heap[w.heap.size]? = some o := (MapKept.heap_alloc w o).1

set_option maxHeartbeats 800000 in
theorem live_any (w : World) : Calls Try.prog 7 #[] w fun e w' => e = .returned (.bool true) ∧ Below w.heap.size w w' := by
  go_enter Try.func7, Try.ntmps7
  go_wp2_with fail
  refine (new_ok 5 w (by decide) (by decide)).mono ?_
  rintro e w1 ⟨C, M, rfl, hc, hb⟩
  have C1 := Lib.hid hc
  have B1 := Lib.hid hb
  clear hc hb
  go_wp2_with fail
  refine (num_any _ _).mono ?_
  rintro e w1' ⟨rfl, rfl⟩
  go_wp2_with fail
  have A1 : Ext w1 (w1.alloc (.cells #[.int .u8 1, .int .u8 1, .int .u8 1] 5)) := Ext.of_below ((Below.refl _ _).alloc (Nat.le_refl _) _)
  have BB1 := Lib.hid (B1.out.alloc B1.out.size (.cells #[.int .u8 1, .int .u8 1, .int .u8 1] 5))
  have P1 := Lib.hid (put_some (C1.out.ext A1) (by simp [total]) (by decide) (by decide) (k := 1) (by decide) (some ⟨w1.heap.size, 0, none⟩) [1, 1, 1] 3 (by decide) (by decide)
    (clone_made #[.int .u8 1, .int .u8 1, .int .u8 1] [1, 1, 1] 3 _ w1.heap.size (alloc_at _ _) rfl (by decide)))
  clear A1
  refine P1.out.mono ?_
  rintro e w2 ⟨E1, v1, _, rfl, ⟨D1, hc2⟩, hf2⟩
  rw [evict_le (by simp [total])] at hc2
  have C2 := Lib.hid hc2
  have B2 := Lib.hid (BB1.out.trans hf2.below)
  clear hc2 hf2
  go_wp2_with fail
  have A2 : Ext w2 (w2.alloc (.cells #[.int .u8 2, .int .u8 2] 5)) := Ext.of_below ((Below.refl _ _).alloc (Nat.le_refl _) _)
  have BB2 := Lib.hid (B2.out.alloc B2.out.size (.cells #[.int .u8 2, .int .u8 2] 5))
  have P2 := Lib.hid (put_some (C2.out.ext A2) (by simp [total]) (by decide) (by decide) (k := 2) (by decide) (some ⟨w2.heap.size, 0, none⟩) [2, 2] 2 (by decide) (by decide)
    (clone_made #[.int .u8 2, .int .u8 2] [2, 2] 2 _ w2.heap.size (alloc_at _ _) rfl (by decide)))
  clear A2
  refine P2.out.mono ?_
  rintro e w3 ⟨E2, v2, _, rfl, ⟨D2, hc3⟩, hf3⟩
  rw [evict_le (by simp [total, List.filter])] at hc3
  have C3 := Lib.hid hc3
  have B3 := Lib.hid (BB2.out.trans hf3.below)
  clear hc3 hf3
  go_wp2_with fail
  refine (get_any C3.out (x := ⟨1, [1, 1, 1], E1, v1⟩) (by simp [List.filter]) (by decide) (by simp)).mono ?_
  rintro e w4 ⟨vg, rfl, _, ⟨D3, hc4⟩, hf4⟩
  have C4 := Lib.hid hc4
  have B4 := Lib.hid (B3.out.trans hf4.below)
  clear hc4 hf4
  go_wp2_with fail
  have A4 : Ext w4 (w4.alloc (.cells #[.int .u8 3, .int .u8 3] 5)) := Ext.of_below ((Below.refl _ _).alloc (Nat.le_refl _) _)
  have BB4 := Lib.hid (B4.out.alloc B4.out.size (.cells #[.int .u8 3, .int .u8 3] 5))
  have P4 := Lib.hid (put_some (C4.out.ext A4) (by simp [total, List.filter]) (by decide) (by decide) (k := 3) (by decide) (some ⟨w4.heap.size, 0, none⟩) [3, 3] 2 (by decide) (by decide)
    (clone_made #[.int .u8 3, .int .u8 3] [3, 3] 2 _ w4.heap.size (alloc_at _ _) rfl (by decide)))
  clear A4
  refine P4.out.mono ?_
  rintro e w5 ⟨E3, v3, _, rfl, ⟨D4, hc5⟩, hf5⟩
  have he : evict 5 [⟨3, [3, 3], E3, v3⟩, ⟨1, [1, 1, 1], E1, v1⟩, ⟨2, [2, 2], E2, v2⟩] = [⟨3, [3, 3], E3, v3⟩, ⟨1, [1, 1, 1], E1, v1⟩] := by
    rw [evict_gt (by simp [total]) (by simp)]
    exact evict_le (by simp [total])
  have C5 : Hid (CacheAt w.heap.size w5 C M 3 5 1 0 [⟨3, [3, 3], E3, v3⟩, ⟨1, [1, 1, 1], E1, v1⟩] D4) := by
    rw [← he]; exact Lib.hid hc5
  have B5 := Lib.hid (BB4.out.trans hf5.below)
  clear hc5 hf5 he
  go_wp2_with fail
  refine (keys_any C5.out (by simp)).mono ?_
  rintro e w6 ⟨vk, rfl, hr6, hb6⟩
  have B6 := Lib.hid (B5.out.trans (hb6.mono B5.out.size))
  have C6 := Lib.hid (C5.out.ext (Ext.of_below hb6))
  have hr0 := hr6
  rcases hr6.2 with ⟨_, h0⟩ | ⟨g, cap, cur, rfl, _⟩
  · simp at h0
  have q0 : w6.cell? ⟨g, 0, none⟩ = some (.int .i64 3) := by
    have := hr0.cells (g := g) rfl 0 (.int .i64 3) rfl
    simpa [Addr.add] using this
  have q1 : w6.cell? ⟨g, 1, none⟩ = some (.int .i64 1) := by
    have := hr0.cells (g := g) rfl 1 (.int .i64 1) rfl
    simpa [Addr.add] using this
  clear hr0 hb6
  go_wp2_with fail
  refine (bytes_any C6.out).mono ?_
  rintro e w7 ⟨rfl, rfl⟩
  go_wp2_with fail
  go_ret
  exact ⟨rfl, B6.out⟩

set_option maxHeartbeats 400000 in
theorem nils_walk (d k : Int) (v : Value) (a : Option Addr) (len cap : Nat) (hv : v = .slice a len cap) (w : World) : Calls Try.prog 5 #[.agg #[.int .i64 d, .int .i64 k, v]] w fun e w' => e = .returned (.bool true) ∧ Below w.heap.size w w' := by
  subst hv
  go_enter Try.func5, Try.ntmps5
  go_wp2_with fail
  refine (get_nil k _).mono ?_
  rintro e w1 ⟨rfl, rfl⟩
  go_wp2_with fail
  refine (drop_nil k _).mono ?_
  rintro e w1 ⟨rfl, rfl⟩
  go_wp2_with fail
  refine (told_nil _).mono ?_
  rintro e w1 ⟨rfl, rfl⟩
  go_wp2_with fail
  refine (keys_nil _).mono ?_
  rintro e w1 ⟨rfl, rfl⟩
  go_wp2_with fail
  refine (bytes_nil _).mono ?_
  rintro e w1 ⟨rfl, rfl⟩
  go_wp2_with fail
  refine (put_nil k _ _).mono ?_
  rintro e w1 ⟨rfl, rfl⟩
  go_wp2_with fail
  refine (num_any _ _).mono ?_
  rintro e w1 ⟨rfl, rfl⟩
  go_wp2_with fail
  refine (live_any _).mono ?_
  rintro e w1 ⟨rfl, hb⟩
  have B1 := Lib.hid hb
  clear hb
  go_wp2_with fail
  go_ret
  exact ⟨rfl, ((Below.refl _ _).alloc (Nat.le_refl _) _).trans (B1.out.mono (by simp))⟩
end Go.Proofs.Ytdodjjnejpdgcaa
