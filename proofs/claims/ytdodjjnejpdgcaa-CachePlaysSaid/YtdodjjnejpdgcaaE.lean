/- Caches in memory: copies of bytes; Get. -/
import Derived.Test.YtdodjjnejpdgcaaC
namespace Go.Proofs.Ytdodjjnejpdgcaa
open Go.RowKit Go.Maps

theorem info5 : (Try.prog.info? 5).map (fun i => (i.zero, i.size, i.bytes)) = some (some (.int .u8 0), 1, 1) := by kernel_rfl

/-- a slice of bytes: its address, and what its cells hold -/
def BRow (w : World) (a : Option Addr) (bs : List Int) : Prop := bs = [] ∨ ∃ b off, a = some ⟨b, off, none⟩ ∧ ∀ j, j < bs.length → w.cell? ⟨b, off + j, none⟩ = some (.int .u8 (bs.getD j 0))

def ClonePost (bs : List Int) (w : World) (e : Ending) (w' : World) : Prop :=
  ∃ v, e = .returned v ∧ w'.ownsRow w.heap.size 5 1 v bs.length (bs.map (Value.int .u8)) ∧ Below w.heap.size w w'

theorem clone_nil (w : World) : Calls Try.prog 20 #[.slice none 0 0] w (ClonePost [] w) := by
  have h := Lib.run_eql_slice_nil (P := Try.prog) (t := 30)
  go_enter Try.func20, Try.ntmps20
  go_wp2
  go_ret
  exact ⟨_, rfl, World.ownsRow_nil _ _ _ _, Below.refl _ _⟩

theorem addr_add (b off j : Nat) : (⟨b, off, none⟩ : Addr).add j = ⟨b, off + j, none⟩ := by cases j <;> simp [Addr.add]

theorem BRow.news {w : World} {x : Addr} {bs : List Int} (h : BRow w (some x) bs) : ∀ (j : Nat) (u : Value), (bs.map (Value.int .u8))[j]? = some u → w.cell? (x.add j) = some u := by
  intro j u hu
  rcases h with rfl | ⟨b, off, h1, h2⟩
  · simp at hu
  · injection h1 with h1
    subst h1
    rw [List.getElem?_map] at hu
    by_cases hj : j < bs.length
    · rw [List.getElem?_eq_getElem hj] at hu
      simp at hu
      rw [addr_add, h2 j hj, ← hu]
      simp [List.getElem?_eq_getElem hj]
    · rw [List.getElem?_eq_none (by omega)] at hu
      cases hu

set_option maxHeartbeats 400000 in
theorem clone_some (x : Addr) (c : Nat) (bs : List Int) (w : World) (h : BRow w (some x) bs) (hn : bs.length ≤ 1000000) : Calls Try.prog 20 #[.slice (some x) bs.length c] w (ClonePost bs w) := by
  have hs := Lib.run_eql_slice_nil (P := Try.prog) (t := 30)
  obtain ⟨i0, hi, hz0, hz1, hz2⟩ := info_parts info5
  have hnews := h.news
  have hne : Ext w (w.alloc (.cells #[] 5)) := Ext.of_below ((Below.refl _ _).alloc (Nat.le_refl _) _)
  have HN := Lib.hid (fun j u hu => hne.cell (hnews j u hu))
  have hown : (w.alloc (.cells #[] 5)).ownsRow w.heap.size 5 1 (.slice (some ⟨w.heap.size, 0, none⟩) 0 0) 0 [] := World.ownsRow_made w #[] 0 (Nat.le_refl _) (by decide) rfl
  have HL := Lib.hid (show (bs.map (Value.int .u8)).length = bs.length * 1 from by simp)
  have HO := Lib.hid (show ∀ u ∈ bs.map (Value.int .u8), u.oneCell' = true from by intro u hu; obtain ⟨z, _, rfl⟩ := List.mem_map.1 hu; rfl)
  clear h hnews hne
  go_enter Try.func20, Try.ntmps20
  go_wp2_with (at_builtin; refine wpList_append_own _ rfl _ _ 30 rfl w.heap.size 5 i0 (.int .u8 0) 1 1 Try.underlying30 hi hz0 hz1 hz2 rfl (by decide) _ _ _ rfl hown x bs.length c (bs.map (Value.int .u8)) rfl HL.out HN.out HO.out ?c3 ?c4 ?c5 ?_)
  case c3 => unfold maxLen; omega
  case c4 => omega
  case c5 => simp
  intro v' w1 hown' hgrow _
  have H1 := Lib.hid hown'
  have HG := Lib.hid hgrow
  clear hown' hgrow
  go_wp2_with fail
  go_ret
  refine ⟨_, rfl, by simpa using H1.out, ?_⟩
  exact ((Below.refl _ _).alloc (Nat.le_refl _) _).grown HG.out (by simp) (fun k hk => by simp [Value.ownBlock] at hk; omega)

theorem clone_row {B : Nat} {w : World} {v : Value} {bs : List Int} (h : w.ownsRow B 5 1 v bs.length (bs.map (Value.int .u8))) (hn : bs.length ≤ 1000000) : Calls Try.prog 20 #[v] w (ClonePost bs w) := by
  have h0 := h
  rcases h.2 with ⟨rfl, h2⟩ | ⟨g, cap, cur, rfl, _⟩
  · obtain rfl : bs = [] := List.eq_nil_of_length_eq_zero h2
    exact clone_nil w
  · refine clone_some _ cap bs w (.inr ⟨g, 0, rfl, fun j hj => ?_⟩) hn
    have := h0.cells (g := g) rfl j (.int .u8 (bs.getD j 0)) (by rw [List.getElem?_map, List.getElem?_eq_getElem hj]; simp [List.getElem?_eq_getElem hj])
    rwa [addr_add] at this

section
variable {B : Nat} {w : World} {C M n : Nat} {most hits misses : Int} {L : List Ent} {D : DataW Unit}

theorem Below.ext {w w' : World} (h : Below w.heap.size w w') : Ext w w' := Ext.of_below h
theorem CacheAt.ext {w' : World} (h : CacheAt B w C M n most hits misses L D) (he : Ext w w') : CacheAt B w' C M n most hits misses L D :=
  ⟨h.body.ext he, he.seg h.ring, h.keys, h.mp⟩
theorem CacheAt.lt (h : CacheAt B w C M n most hits misses L D) : C < w.heap.size ∧ M < w.heap.size ∧ B ≤ C := by
  obtain ⟨cs, h1, _⟩ := h.body.blk
  exact ⟨(Array.getElem?_eq_some_iff.1 h1).1, h.body.mp.lt, h.body.bC⟩

theorem get_nil (k : Int) (w : World) : Calls Try.prog 13 #[.pointer none, .int .i64 k] w fun e w' => e = .returned (.tuple #[.slice none 0 0, .bool false]) ∧ w = w' := by
  go_enter Try.func13, Try.ntmps13
  go_wp2
  go_ret2
  exact ⟨rfl, rfl⟩

def MissPost (B C M n : Nat) (most hits misses : Int) (L : List Ent) (D : DataW Unit) (w : World) (e : Ending) (w' : World) : Prop :=
  e = .returned (.tuple #[.slice none 0 0, .bool false]) ∧ CacheAt B w' C M n most hits (misses + 1) L D ∧ Fr B w w'

set_option maxHeartbeats 400000 in
theorem get_miss (h : CacheAt B w C M n most hits misses L D) (hm : 0 ≤ misses ∧ misses ≤ 1000000) {k : Int} {v : Value} (hrun : (Instr.lookup 52 (.map (some M)) (.int .i64 k) true).run Try.prog w = .ok (.tuple #[v, .bool false]) w) :
    Calls Try.prog 13 #[.pointer (some ⟨C, 0, none⟩), .int .i64 k] w (MissPost B C M n most hits misses L D w) := by
  have h6 := h.body.c6
  have h8 := h.body.c8
  obtain ⟨cs, hblk, _⟩ := h.body.blk
  have f8 := frozen_at hblk 8
  have H := Lib.hid h
  clear h hblk
  obtain ⟨hm1, hm2⟩ := hm
  go_enter Try.func13, Try.ntmps13
  go_wp2
  go_ret2
  refine ⟨rfl, ⟨H.out.body.setMisses _, H.out.ring.count (by omega) _, H.out.keys, H.out.mp⟩, ?_⟩
  exact (Mv.set w ⟨C, 8, none⟩ _ (fun a => a = ⟨C, 8, none⟩) rfl).fr H.out.body (fun a ha => .inl (by rw [ha]))

def HitPost (B C M n : Nat) (most hits misses : Int) (L : List Ent) (x : Ent) (w : World) (e : Ending) (w' : World) : Prop :=
  ∃ v, e = .returned (.tuple #[v, .bool true]) ∧ w'.ownsRow w.heap.size 5 1 v x.bs.length (x.bs.map (Value.int .u8)) ∧ (∃ D', CacheAt B w' C M n most (hits + 1) misses (x :: L.filter fun y => y.key != x.key) D') ∧ Fr B w w'

theorem MapIs.perm {L' : List Ent} (h : MapIs D L) (hp : ∀ x, x ∈ L' ↔ x ∈ L) : MapIs D L' := by
  refine ⟨fun k => ?_, fun e he => h.2 e ((hp e).1 he)⟩
  rw [h.1 k, Bool.eq_iff_iff, List.any_eq_true, List.any_eq_true]
  exact ⟨fun ⟨x, h1, h2⟩ => ⟨x, (hp x).2 h1, h2⟩, fun ⟨x, h1, h2⟩ => ⟨x, (hp x).1 h1, h2⟩⟩

set_option maxHeartbeats 400000 in
theorem get_hit (h : CacheAt B w C M n most hits misses L D) (hh : 0 ≤ hits ∧ hits ≤ 1000000) {x : Ent} (he : x ∈ L) (hx : x.bs.length ≤ 1000000)
    (hrun : (Instr.lookup 52 (.map (some M)) (.int .i64 x.key) true).run Try.prog w = .ok (.tuple #[.pointer (some ⟨x.E, 0, none⟩), .bool true]) w) :
    Calls Try.prog 13 #[.pointer (some ⟨C, 0, none⟩), .int .i64 x.key] w (HitPost B C M n most hits misses L x w) := by
  have h6 := h.body.c6
  have h7 := h.body.c7
  obtain ⟨cs, hblk, _⟩ := h.body.blk
  have f7 := frozen_at hblk 7
  obtain ⟨L1, L2, rfl⟩ := List.append_of_mem he
  have hnd := h.body.nodup (fun _ h => h) h.keys
  rw [List.map_append, List.map_cons] at hnd
  have hring := (h.ring.count (o := 7) (by omega) (.int .i64 (hits + 1)))
  rw [List.map_append, List.map_cons] at hring
  have hal : Alive (L1 ++ x :: L2) (L1.map Ent.E ++ x.E :: L2.map Ent.E) := by
    intro y hy
    have : y ∈ (L1 ++ x :: L2).map Ent.E := by rw [List.map_append, List.map_cons]; exact hy
    obtain ⟨z, hz, h1⟩ := List.mem_map.1 this
    exact ⟨z, hz, h1⟩
  have hal2 : Alive (L1 ++ x :: L2) (x.E :: (L1.map Ent.E ++ L2.map Ent.E)) := fun y hy => hal y (by simp at hy ⊢; rcases hy with h | h | h <;> simp [h])
  have hnd2 : (x.E :: (L1.map Ent.E ++ L2.map Ent.E)).Nodup := by
    obtain ⟨n1, n2, n3⟩ := List.nodup_append.1 hnd
    have n4 := List.nodup_cons.1 n2
    refine List.nodup_cons.2 ⟨?_, List.nodup_append.2 ⟨n1, n4.2, fun a ha b hb => n3 a ha b (by simp [hb])⟩⟩
    intro hx
    rcases List.mem_append.1 hx with hx | hx
    · exact n3 _ hx x.E (by simp) rfl
    · exact n4.1 hx
  have HB1 := Lib.hid (h.body.setHits (hits + 1))
  have O := Lib.hid (out_ring HB1.out hring hal hnd)
  have HF := Lib.hid (filter_key h.keys)
  have HK := Lib.hid h.keys
  have HM := Lib.hid h.mp
  have HA2 := Lib.hid hal2
  have HN2 := Lib.hid hnd2
  have H0 := Lib.hid h
  obtain ⟨hh1, hh2⟩ := hh
  clear hring hal hal2 hnd hnd2 h hblk
  go_enter Try.func13, Try.ntmps13
  go_wp2_with fail
  refine O.out.mono ?_
  rintro e' w1 ⟨rfl, hb1, hs1, hm1⟩
  have B1 := Lib.hid hb1
  have M1 := Lib.hid hm1
  have F1 := Lib.hid (first_ring hb1 hs1 HA2.out HN2.out)
  clear hb1 hs1 hm1
  go_wp2_with fail
  refine F1.out.mono ?_
  rintro e' w2 ⟨rfl, hb2, hs2, hm2⟩
  have B2 := Lib.hid hb2
  have S2 := Lib.hid hs2
  have M2 := Lib.hid hm2
  have hel := hb2.els x he
  have kv := hel.val
  have CL := Lib.hid (clone_row hel.row hx)
  clear hb2 hs2 hm2 hel
  go_wp2_with fail
  refine CL.out.mono ?_
  rintro e' w3 ⟨v, rfl, hr, hbl⟩
  have HR := Lib.hid hr
  have BL := Lib.hid hbl
  clear hr hbl
  go_wp2_with fail
  go_ret2
  have FR1 : Fr B w (w.setCell ⟨C, 7, none⟩ (.int .i64 (hits + 1))) := (Mv.set w ⟨C, 7, none⟩ _ (fun a => a = ⟨C, 7, none⟩) rfl).fr H0.out.body (fun a ha => .inl (by rw [ha]))
  have FR2 := FR1.trans (M1.out.fr HB1.out (fun a ha => ha.block))
  have FR3 := FR2.trans (M2.out.fr B1.out (fun a ha => ha.block))
  have hsz : B ≤ w2.heap.size := by have := H0.out.lt; have := FR3.below.size; omega
  have FR4 := FR3.trans (Fr.of_below BL.out hsz)
  have hE := Ext.of_below BL.out
  have hrow : w3.ownsRow w.heap.size 5 1 v x.bs.length (x.bs.map (Value.int .u8)) := by
    refine ⟨HR.out.1, ?_⟩
    rcases HR.out.2 with h1 | ⟨g, cap, cur, h1, h2, h3⟩
    · exact .inl h1
    · exact .inr ⟨g, cap, cur, h1, Nat.le_trans FR3.below.size h2, h3⟩
  refine ⟨v, rfl, hrow, ⟨D, ?_⟩, FR4⟩
  rw [HF.out]
  have hp : ∀ y, y ∈ x :: (L1 ++ L2) ↔ y ∈ L1 ++ x :: L2 := by
    intro y; simp only [List.mem_cons, List.mem_append]
    constructor
    · rintro (h | h | h) <;> simp [h]
    · rintro (h | h | h) <;> simp [h]
  have ht : total (x :: (L1 ++ L2)) = total (L1 ++ x :: L2) := by
    rw [total_app]; simp only [total]; rw [total_app]; omega
  refine ⟨?_, ?_, ?_, HM.out.perm hp⟩
  · rw [ht]
    exact (B2.out.ext hE).weaken (fun y hy => (hp y).1 hy)
  · have := hE.seg S2.out
    simpa using this
  · have hk := HK.out
    rw [List.map_append, List.map_cons] at hk
    obtain ⟨n1, n2, n3⟩ := List.nodup_append.1 hk
    have n4 := List.nodup_cons.1 n2
    rw [List.map_cons, List.map_append]
    refine List.nodup_cons.2 ⟨?_, List.nodup_append.2 ⟨n1, n4.2, fun a ha b hb => n3 a ha b (by simp [hb])⟩⟩
    intro hx
    rcases List.mem_append.1 hx with hx | hx
    · exact n3 _ hx x.key (by simp) rfl
    · exact n4.1 hx
end
end Go.Proofs.Ytdodjjnejpdgcaa
