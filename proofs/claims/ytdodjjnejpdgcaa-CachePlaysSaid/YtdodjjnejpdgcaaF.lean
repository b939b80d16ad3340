/- Caches in memory: New, Bytes, Told, Keys. -/
import Derived.Test.YtdodjjnejpdgcaaE
import Derived.Deep.QuietTactic
import Derived.BigQuiet
import Derived.LaidEqlPtr
import Derived.Lib.Builder
namespace Go.Proofs.Ytdodjjnejpdgcaa
open Go.RowKit Go.Maps

section
variable {B : Nat} {w : World} {C M n : Nat} {most hits misses : Int} {L : List Ent} {D : DataW Unit}

theorem new_bad (most : Int) (w : World) (h : most < 0 ∨ 8388608 < most) : Calls Try.prog 8 #[.int .i64 most] w fun e w' => e = .returned (.tuple #[.pointer none, .int .i64 1]) ∧ w = w' := by
  rcases h with h | h
  · go_enter Try.func8, Try.ntmps8
    go_wp2
    go_ret2
    exact ⟨rfl, rfl⟩
  · have h' : ¬ most < 0 := by omega
    go_enter Try.func8, Try.ntmps8
    go_wp2
    go_ret2
    exact ⟨rfl, rfl⟩

/-- the world in which New lays its links -/
def newW (most : Int) (w : World) : World := (w.alloc (.map #[] 0)).alloc (.cells #[.int .i64 most, .int .i64 0, .int .i64 0, .slice none 0 0, .pointer none, .pointer none, .map (some w.heap.size), .int .i64 0, .int .i64 0] 57)
theorem newW_heap (most : Int) (w : World) : (newW most w).heap[w.heap.size + 1]? = some (.cells #[.int .i64 most, .int .i64 0, .int .i64 0, .slice none 0 0, .pointer none, .pointer none, .map (some w.heap.size), .int .i64 0, .int .i64 0] 57 (0, 0)) := by
  have h : (w.alloc (.map #[] 0)).heap.size = w.heap.size + 1 := by simp
  rw [← h]
  exact (MapKept.heap_alloc (w.alloc (.map #[] 0)) _).1
theorem newW_body (most : Int) (w : World) : Body Try.prog w.heap.size (newW most w) (w.heap.size + 1) w.heap.size 0 most 0 0 0 [] (.map []) := by
  have h := newW_heap most w
  have hc : ∀ o, (newW most w).cell? ⟨w.heap.size + 1, o, none⟩ = (#[.int .i64 most, .int .i64 0, .int .i64 0, .slice none 0 0, .pointer none, .pointer none, .map (some w.heap.size), .int .i64 0, .int .i64 0] : Array Value)[o]? := by
    intro o; simp [World.cell?, h]
  exact ⟨by omega, by omega, ⟨_, h, rfl⟩, by rw [hc]; rfl, by rw [hc]; rfl, by rw [hc]; rfl, by rw [hc]; rfl, by rw [hc]; rfl, (fun e he => by cases he), (World.ownsMap_made w Try.prog 3 ptrElem).alloc _⟩
theorem newW_below (most : Int) (w : World) : Below w.heap.size w (newW most w) := ((Below.refl _ _).alloc (Nat.le_refl _) _).alloc (by simp) _

theorem Mv.drew {T : Addr → Prop} {a b : World} (h : Mv T a b) : Mv T a b.drew := ⟨h.os, h.tape, h.output, h.size, h.cell, h.block, h.kind⟩

def NewPost (most : Int) (w : World) (e : Ending) (w' : World) : Prop :=
  ∃ C M, e = .returned (.tuple #[.pointer (some ⟨C, 0, none⟩), .int .i64 0]) ∧ CacheAt w.heap.size w' C M 0 most 0 0 [] (.map []) ∧ Below w.heap.size w w'

set_option maxHeartbeats 400000 in
theorem new_ok (most : Int) (w : World) (h1 : 0 ≤ most) (h2 : most ≤ 8388608) : Calls Try.prog 8 #[.int .i64 most] w (NewPost most w) := by
  have hB := newW_body most w
  obtain ⟨⟨v5, h5⟩, ⟨v4, h4⟩, f5, f4, p5, p4⟩ := hB.node (x := sen (w.heap.size + 1)) (.inl rfl)
  have h5' : (newW most w).cell? ⟨w.heap.size + 1, 5, none⟩ = some v5 := h5
  have h4' : (newW most w).cell? ⟨w.heap.size + 1, 4, none⟩ = some v4 := h4
  have f5' : (newW most w).frozen? ⟨w.heap.size + 1, 5, none⟩ = false := f5
  have f4' : (newW most w).frozen? ⟨w.heap.size + 1, 4, none⟩ = false := f4
  have HB := Lib.hid hB
  have HBe := Lib.hid (newW_below most w)
  have HW := Lib.hid (show newW most w = (w.alloc (.map #[] 0)).alloc (.cells #[.int .i64 most, .int .i64 0, .int .i64 0, .slice none 0 0, .pointer none, .pointer none, .map (some w.heap.size), .int .i64 0, .int .i64 0] 57) from rfl)
  clear hB h5 h4 f5 f4 p5 p4
  generalize newW most w = W1 at *
  have hmm := @run_makeMap Try.prog
  go_enter Try.func8, Try.ntmps8
  go_wp2
  rw [← HW.out]
  go_region
  all_goals go_wp2
  go_ret2
  have hm : Mv (PtrCells (w.heap.size + 1) []) W1 (((W1.setCell ⟨w.heap.size + 1, 4, none⟩ (ptr (sen (w.heap.size + 1)))).setCell ⟨w.heap.size + 1, 5, none⟩ (ptr (sen (w.heap.size + 1)))).drew) :=
    ((Mv.set W1 ⟨w.heap.size + 1, 4, none⟩ (ptr (sen (w.heap.size + 1))) _ (.inl rfl)).trans (Mv.set _ ⟨w.heap.size + 1, 5, none⟩ (ptr (sen (w.heap.size + 1))) _ (.inr (.inl rfl)))).drew
  refine ⟨w.heap.size + 1, w.heap.size, rfl, ⟨HB.out.mv hm, ?_, List.Pairwise.nil, fun _ => rfl, (fun e he => by cases he)⟩, HBe.out.trans ?_⟩
  · constructor
    · exact World.cell?_setCell_same _ _ _ ((World.cell?_setCell_other _ _ _ _ (ad_ne (show 4 ≠ 5 by decide))).trans h5')
    · exact (World.cell?_setCell_other _ _ _ _ (ad_ne (show 5 ≠ 4 by decide))).trans (World.cell?_setCell_same _ _ _ h4')
  · exact hm.below (fun a ha => PtrCells.base HB.out ha)

theorem bytes_nil (w : World) : Calls Try.prog 12 #[.pointer none] w fun e w' => e = .returned (.int .i64 0) ∧ w = w' := by
  go_enter Try.func12, Try.ntmps12
  go_wp2
  go_ret
  exact ⟨rfl, rfl⟩
theorem bytes_any (h : CacheAt B w C M n most hits misses L D) : Calls Try.prog 12 #[.pointer (some ⟨C, 0, none⟩)] w fun e w' => e = .returned (.int .i64 (total L)) ∧ w = w' := by
  have h1 := h.body.c1
  clear h
  generalize total L = t at *
  go_enter Try.func12, Try.ntmps12
  go_wp2
  go_ret
  exact ⟨rfl, rfl⟩
theorem told_nil (w : World) : Calls Try.prog 19 #[.pointer none] w fun e w' => e = .returned (.tuple #[.int .i64 0, .int .i64 0]) ∧ w = w' := by
  go_enter Try.func19, Try.ntmps19
  go_wp2
  go_ret2
  exact ⟨rfl, rfl⟩
theorem told_any (h : CacheAt B w C M n most hits misses L D) : Calls Try.prog 19 #[.pointer (some ⟨C, 0, none⟩)] w fun e w' => e = .returned (.tuple #[.int .i64 hits, .int .i64 misses]) ∧ ∃ m, w' = w.drewN m := by
  have h1 := h.body.c7
  have h2 := h.body.c8
  clear h
  go_enter Try.func19, Try.ntmps19
  go_wp2
  go_quiet (fail)
  go_wp2
  go_ret2
  exact ⟨rfl, _, rfl⟩
def KeysPost (L : List Ent) (w : World) (e : Ending) (w' : World) : Prop :=
  ∃ v, e = .returned v ∧ w'.ownsRow w.heap.size 3 1 v L.length (L.map fun x => Value.int .i64 x.key) ∧ Below w.heap.size w w'

theorem info3 : (Try.prog.info? 3).map (fun i => (i.zero, i.size, i.bytes)) = some (some (.int .i64 0), 1, 8) := by kernel_rfl
/-- the first k keys -/
def keyRow (L : List Ent) (k : Nat) : List Value := (L.take k).map fun x => Value.int .i64 x.key
theorem keyRow_succ {L : List Ent} {k : Nat} (h : k < L.length) : keyRow L (k + 1) = keyRow L k ++ [.int .i64 L[k].key] := by
  unfold keyRow
  rw [List.take_succ_eq_append_getElem h, List.map_append]; rfl

theorem seg_drop {w : World} : ∀ {L : List Nat} {p q : Node} {k : Nat}, Seg w p L q → ∃ p', Seg w p' (L.drop k) q
  | _, p, _, 0, h => ⟨p, h⟩
  | [], p, _, _ + 1, h => ⟨p, h⟩
  | _ :: L, _, _, k + 1, h => seg_drop (L := L) (k := k) h.2

/-- what Keys reads at each place of the ring -/
def Walk (C : Nat) (L : List Ent) (w : World) : Prop :=
  w.cell? ⟨C, 5, none⟩ = some (ptr (headN (L.map Ent.E) (sen C))) ∧
  ∀ k (h : k < L.length), w.cell? ⟨L[k].E, 0, none⟩ = some (.int .i64 L[k].key) ∧ w.cell? ⟨L[k].E, 3, none⟩ = some (ptr (headN ((L.map Ent.E).drop (k + 1)) (sen C)))
theorem CacheAt.walk (h : CacheAt B w C M n most hits misses L D) : Walk C L w := by
  refine ⟨h.ring.head.1, fun k hk => ⟨(h.body.els _ (List.getElem_mem hk)).key, ?_⟩⟩
  obtain ⟨p', hp⟩ := seg_drop (k := k) h.ring
  rw [List.drop_eq_getElem_cons (by simpa using hk)] at hp
  have := hp.2.head.1
  simpa [nxt, nd] using this
theorem Walk.below {w' : World} (h : Walk C L w) (hC : C < w.heap.size) (hE : ∀ x ∈ L, x.E < w.heap.size) (hb : Below w.heap.size w w') : Walk C L w' :=
  ⟨(hb.cell (by exact hC)).trans h.1, fun k hk => ⟨(hb.cell (by exact hE _ (List.getElem_mem hk))).trans (h.2 k hk).1, (hb.cell (by exact hE _ (List.getElem_mem hk))).trans (h.2 k hk).2⟩⟩

def sliceLen : Value → Nat
  | .slice _ n _ => n
  | _ => 0
theorem row_len {w : World} {b : Nat} {e : TypeId} {v : Value} {n : Nat} {xs : List Value} (h : w.ownsRow b e 1 v n xs) : sliceLen v = n := by
  rcases h.2 with ⟨rfl, rfl⟩ | ⟨g, cap, cur, rfl, _⟩ <;> rfl
theorem info55 : ∃ j, Try.prog.info? 55 = some j ∧ j.size ≠ 0 := by
  have h : (Try.prog.info? 55).map (fun i => i.size) = some 4 := by kernel_rfl
  cases hi : Try.prog.info? 55 with
  | none => rw [hi] at h; cases h
  | some j =>
                rw [hi] at h
                have h2 : j.size = 4 := by simpa using h
                exact ⟨j, rfl, by omega⟩
theorem run_neq_ptr_other {P : Program} (w : World) {tp te : TypeId} {j : TypeInfo} {a b : Addr} {ca cb : Array Value} {ta tb : TypeId} (hp : P.underlying tp = some (.pointer te)) (hte : P.info? te = some j) (hsz : j.size ≠ 0)
    (hne : a ≠ b) (ha : w.heap[a.block]? = some (.cells ca ta (0, 0))) (hb : w.heap[b.block]? = some (.cells cb tb (0, 0))) :
    (binOp .neq tp (.pointer (some a)) (.pointer (some b))).run P w = .ok (.bool true) w := by
  have h : ∀ d : Nat, (Op.equalIn (d + 1) tp (.pointer (some a)) (.pointer (some b))).run P w = .ok false w := fun d => by
    simp [Op.equalIn, run_underlying hp, sizeOf, typeInfo, hte, hsz, run_sameAddr_other w hne ha hb]
  simp only [binOp]
  simp [Op.equal, Op.maxDepth, h 9999]

set_option maxHeartbeats 400000 in
theorem keys_any (h : CacheAt B w C M n most hits misses L D) (hL : L.length ≤ 100000) : Calls Try.prog 14 #[.pointer (some ⟨C, 0, none⟩)] w (KeysPost L w) := by
  have hC := h.lt.1
  have hE : ∀ x ∈ L, x.E < w.heap.size := by
    intro x hx
    obtain ⟨cs, h1, _⟩ := (h.body.els x hx).blk
    exact (Array.getElem?_eq_some_iff.1 h1).1
  have hW := Lib.hid h.walk
  obtain ⟨cs, hblk, hcs⟩ := h.body.blk
  have h5 := h.walk.1
  have HC := Lib.hid hC
  have HE := Lib.hid hE
  have HCS := Lib.hid hcs
  have HEL := Lib.hid h.body.els
  obtain ⟨i0, hi, hz0, hz1, hz2⟩ := info_parts info3
  clear hC hE h hcs
  have HK := Lib.hid hblk
  clear hblk
  generalize hq : headN (L.map Ent.E) (sen C) = q at *
  have HQ := Lib.hid hq
  clear hq
  unfold ptr at h5
  go_enter Try.func14, Try.ntmps14
  go_wp2_with fail
  go_loopw [3, 4] (fun v x wr => ∃ k : Nat, k ≤ L.length ∧ x = .pointer (some ⟨(headN ((L.map Ent.E).drop k) (sen C)).1, (headN ((L.map Ent.E).drop k) (sen C)).2, none⟩) ∧ wr.ownsRow w.heap.size 3 1 v k (keyRow L k) ∧ Below w.heap.size w wr)
    (fun v _ _ => L.length - sliceLen v)
  case atStart => exact ⟨0, Nat.zero_le _, by rw [← HQ.out]; rfl, World.ownsRow_nil _ _ _ _, Below.refl _ _⟩
  case round =>
    obtain ⟨k, hk, rfl, hown, hnx⟩ := hrel
    have hlen := row_len hown
    have hblk := hnx.block C HC.out
    rw [HK.out] at hblk
    by_cases hlt : k < L.length
    · have hkey := ((hW.out.below HC.out HE.out hnx).2 k hlt).1
      have hnext : ∀ w', Below w.heap.size w w' → w'.cell? ⟨L[k].E, 3, none⟩ = some (.pointer (some ⟨(headN ((L.map Ent.E).drop (k + 1)) (sen C)).1, (headN ((L.map Ent.E).drop (k + 1)) (sen C)).2, none⟩)) :=
        fun w' hb => ((hW.out.below HC.out HE.out hb).2 k hlt).2
      have HNX := Lib.hid hnext
      clear hnext
      have hEb := HE.out _ (List.getElem_mem hlt)
      obtain ⟨ce, hce, _⟩ := (HEL.out _ (List.getElem_mem hlt)).blk
      have hce' := hnx.block _ hEb
      rw [hce] at hce'
      have hh : headN ((L.map Ent.E).drop k) (sen C) = (L[k].E, 0) := by
        rw [List.drop_eq_getElem_cons (by simpa using hlt)]
        simp [headN, nd]
      have hks := Lib.hid (keyRow_succ hlt)
      have hneq : (binOp .neq 53 (.pointer (some ⟨L[k].E, 0, none⟩)) (.pointer (some ⟨C, 2, none⟩))).run Try.prog wr = .ok (.bool true) wr :=
        run_neq_ptr_other wr Try.underlying53 info55.choose_spec.1 info55.choose_spec.2 (ad_ne (by decide)) hce' hblk
      rw [hh]
      clear hh hce hce' hblk hEb
      generalize L[k].E = E at *
      generalize L[k].key = ky at *
      obtain ⟨q2, hq2⟩ : ∃ q2, Hid (headN ((L.map Ent.E).drop (k + 1)) (sen C) = q2) := ⟨_, Lib.hid rfl⟩
      rw [hq2.out] at HNX
      have HL := Lib.hid hlen
      clear hlen
      go_wp2_with (at_builtin; refine wpList_append_own _ rfl _ _ 38 rfl w.heap.size 3 i0 (.int .i64 0) 1 8 Try.underlying38 hi hz0 hz1 hz2 rfl (by decide) _ _ _ rfl (hown.alloc _) ⟨wr.heap.size, 0, none⟩ 1 1 [.int .i64 ky] rfl rfl ?c1 ?c2 ?c3 ?c4 ?c5 ?_)
      case c1 =>
        intro j u hj
        match j, hj with
        | 0, hj => simp at hj; subst hj; simp [Addr.add]
      case c2 => intro u hu; simp at hu; subst hu; rfl
      case c3 => unfold maxLen; omega
      case c4 => omega
      case c5 => have := hnx.size; simp; omega
      intro v' w1 hown' hgrow _
      have hnx1 : Below w.heap.size w w1 := (hnx.alloc hnx.size _).grown hgrow (by have := hnx.size; simp; omega) (fun q hq => (hown.lt q hq).1)
      have hn3 := HNX.out w1 hnx1
      rw [← hks.out] at hown'
      have HS := Lib.hid hown'
      have HL' := Lib.hid (row_len hown')
      clear hown' hgrow hown hneq hkey
      go_wp2_with fail
      go_roundw
      case rel => exact ⟨k + 1, by omega, by rw [hq2.out], HS.out, hnx1⟩
      case measure => simp [HL.out, HL'.out]; omega
    · obtain rfl : k = L.length := by omega
      have hh : headN ((L.map Ent.E).drop L.length) (sen C) = (C, 2) := by
        rw [List.drop_of_length_le (by simp)]; rfl
      have hneq := Lib.run_neq_ptr_same (P := Try.prog) (w := wr) (⟨C, 2, none⟩ : Addr) Try.underlying53 info55.choose_spec.1
      rw [hh]
      have H := Lib.hid hown
      clear hown hh hblk hlen
      go_wp2_with fail
      go_ret
      refine ⟨_, rfl, ?_, hnx⟩
      have := H.out
      rwa [show keyRow L L.length = L.map fun x => Value.int .i64 x.key from by unfold keyRow; rw [List.take_length]] at this
theorem keys_nil (w : World) : Calls Try.prog 14 #[.pointer none] w fun e w' => e = .returned (.slice none 0 0) ∧ w = w' := by
  go_enter Try.func14, Try.ntmps14
  go_wp2
  go_ret
  exact ⟨rfl, rfl⟩
end
end Go.Proofs.Ytdodjjnejpdgcaa
