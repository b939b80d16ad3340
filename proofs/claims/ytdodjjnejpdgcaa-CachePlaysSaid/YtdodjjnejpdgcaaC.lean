/- Caches in memory: Drop. -/
import Derived.Test.YtdodjjnejpdgcaaB
namespace Go.Proofs.Ytdodjjnejpdgcaa
open Go.RowKit Go.Maps

def MapIs (D : DataW Unit) (L : List Ent) : Prop := (∀ k : Int, Maps.has D (.int .i64 k) = L.any (fun e => e.key == k)) ∧ ∀ e ∈ L, D.atKey (.int .i64 e.key) .nil = .lit (.int .i64 e.E)

structure CacheAt (B : Nat) (w : World) (C M n : Nat) (most hits misses : Int) (L : List Ent) (D : DataW Unit) : Prop where
  body : Body Try.prog B w C M n most (total L) hits misses L D
  ring : Seg w (sen C) (L.map Ent.E) (sen C)
  keys : (L.map Ent.key).Nodup
  mp : MapIs D L

theorem ptrElem_inv {v : Value} {E : Nat} {ps : List MemPlace} (h : ptrElem v = some (.lit (.int .i64 E), ps)) : v = .pointer (some ⟨E, 0, none⟩) := by
  unfold ptrElem at h
  split at h
  · rename_i E' 
    simp at h
    obtain rfl : E' = E := by omega
    rfl
  · simp at h
  · cases h

theorem zero53 (w : World) : (zeroValue 53).run Try.prog w = .ok (.pointer none) w := by kernel_rfl
theorem key_law : Keyed Try.prog 3 := int_keyed Try.underlying3

section
variable {B : Nat} {w : World} {C M n : Nat} {most size hits misses : Int} {L : List Ent} {D : DataW Unit}

theorem CacheAt.look (h : CacheAt B w C M n most hits misses L D) {k : Int} (wk : (Lit.int .i64 k).wf = true) :
    (L.any (fun e => e.key == k) = false ∧ ∃ v, (Instr.lookup 52 (.map (some M)) (.int .i64 k) true).run Try.prog w = .ok (.tuple #[v, .bool false]) w) ∨
    ∃ e ∈ L, e.key = k ∧ (Instr.lookup 52 (.map (some M)) (.int .i64 k) true).run Try.prog w = .ok (.tuple #[.pointer (some ⟨e.E, 0, none⟩), .bool true]) w := by
  obtain ⟨v, ps, hrun, hv⟩ := h.body.mp.look_ok (t := 52) (e := 53) key_law Try.underlying52 (zero53 w) (zd := .nil) (zp := []) rfl (keyOf_int_mk Try.underlying3 wk)
  cases hh : L.any (fun e => e.key == k)
  · rw [h.mp.1 k, hh] at hrun
    exact .inl ⟨rfl, v, hrun⟩
  · rw [h.mp.1 k, hh] at hrun
    obtain ⟨e, he, hk⟩ := List.any_eq_true.1 hh
    have hk' : e.key = k := by simpa using hk
    have hat := h.mp.2 e he
    rw [hk'] at hat
    rw [hat] at hv
    rw [ptrElem_inv hv] at hrun
    exact .inr ⟨e, he, hk', hrun⟩

theorem El.slice {e : Ent} (h : El B w e) : ∃ a c, e.bv = .slice a e.bs.length c := by
  rcases h.row.2 with ⟨h1, h2⟩ | ⟨g, cap, cur, h1, _⟩
  · exact ⟨none, 0, by rw [h1, h2]⟩
  · exact ⟨_, _, h1⟩

theorem Body.nodup {A : List Ent} (hB : Body Try.prog B w C M n most size hits misses A D) : ∀ {L : List Ent}, (∀ e ∈ L, e ∈ A) → (L.map Ent.key).Nodup → (L.map Ent.E).Nodup
  | [], _, _ => List.Pairwise.nil
  | a :: L, hA, h => by
    rw [List.map_cons, List.nodup_cons] at h ⊢
    refine ⟨fun hm => h.1 ?_, Body.nodup hB (fun e he => hA e (by simp [he])) h.2⟩
    obtain ⟨b, hb, e1⟩ := List.mem_map.1 hm
    refine List.mem_map.2 ⟨b, hb, ?_⟩
    have k1 := (hB.els a (hA a (by simp))).key
    have k2 := (hB.els b (hA b (by simp [hb]))).key
    rw [e1] at k2
    rw [k1] at k2
    injection k2 with k2
    injection k2 with _ k2
    exact k2.symm

theorem Seg.count {w : World} {C : Nat} {L : List Nat} (h : Seg w (sen C) L (sen C)) {o : Nat} (ho : o < 2 ∨ 5 < o) (v : Value) : Seg (w.setCell ⟨C, o, none⟩ v) (sen C) L (sen C) := by
  have h1 : ∀ x : Node, (x.2 = 0 ∨ x.2 = 2) → (w.setCell ⟨C, o, none⟩ v).cell? (nxt x) = w.cell? (nxt x) := fun x hx =>
    World.cell?_setCell_other _ _ _ _ (by intro e; simp only [nxt, Addr.mk.injEq] at e; omega)
  have h2 : ∀ x : Node, (x.2 = 0 ∨ x.2 = 2) → (w.setCell ⟨C, o, none⟩ v).cell? (prv x) = w.cell? (prv x) := fun x hx =>
    World.cell?_setCell_other _ _ _ _ (by intro e; simp only [prv, Addr.mk.injEq] at e; omega)
  have h3 : ∀ x : Node, (x = sen C ∨ ∃ e ∈ L, x = nd e) → (x.2 = 0 ∨ x.2 = 2) := by
    rintro x (rfl | ⟨e, _, rfl⟩)
    · exact .inr rfl
    · exact .inl rfl
  exact h.same (fun x hx => h1 x (h3 x hx)) (fun x hx => h2 x (h3 x hx))

theorem drop_nil (k : Int) (w : World) : Calls Try.prog 11 #[.pointer none, .int .i64 k] w fun e w' => e = .returned (.tuple #[]) ∧ w = w' := by
  go_enter Try.func11, Try.ntmps11
  go_wp2
  all_goals (first | go_end0 | refine bodyPost_ret (results_none rfl _ _ _) rfl ?_)
  exact ⟨rfl, rfl⟩

set_option maxHeartbeats 400000 in
theorem drop_miss (h : CacheAt B w C M n most hits misses L D) {k : Int} {v : Value} (hrun : (Instr.lookup 52 (.map (some M)) (.int .i64 k) true).run Try.prog w = .ok (.tuple #[v, .bool false]) w) :
    Calls Try.prog 11 #[.pointer (some ⟨C, 0, none⟩), .int .i64 k] w fun e w' => e = .returned (.tuple #[]) ∧ w = w' := by
  have h6 := h.body.c6
  clear h
  go_enter Try.func11, Try.ntmps11
  go_wp2
  all_goals (first | go_end0 | refine bodyPost_ret (results_none rfl _ _ _) rfl ?_)
  exact ⟨rfl, rfl⟩

theorem total_app (L1 L2 : List Ent) : total (L1 ++ L2) = total L1 + total L2 := by
  induction L1 with
  | nil => simp [total]
  | cons a L ih => simp only [List.cons_append, total, ih]; omega
theorem total_nonneg (L : List Ent) : 0 ≤ total L := by
  induction L with
  | nil => simp [total]
  | cons a L ih => simp only [total]; omega

theorem keyLit (k : Int) : WideAt.IsKeyLit (.int .i64 k) := by simp [WideAt.IsKeyLit]

theorem MapIs.del (h : MapIs D L) (k : Int) : MapIs (D.del (.int .i64 k)) (L.filter fun e => e.key != k) := by
  constructor
  · intro k'
    by_cases e : k' = k
    · subst e
      rw [Maps.has_del_same]
      symm
      rw [List.any_eq_false]
      intro x hx
      have := (List.mem_filter.1 hx).2
      simpa using this
    · rw [Maps.has_del_other (by simpa using e), h.1 k', List.any_filter]
      congr 1
      funext x
      by_cases hx : x.key = k'
      · have : x.key ≠ k := by omega
        simp [hx, e]
      · have hx' : (x.key == k') = false := by simpa using hx
        simp [hx']
  · intro e he
    obtain ⟨h1, h2⟩ := List.mem_filter.1 he
    rw [Maps.atKey_del_other (by simpa using h2)]
    exact h.2 e h1

theorem filter_key {L1 L2 : List Ent} {e : Ent} (h : ((L1 ++ e :: L2).map Ent.key).Nodup) : (L1 ++ e :: L2).filter (fun x => x.key != e.key) = L1 ++ L2 := by
  rw [List.map_append, List.map_cons] at h
  obtain ⟨_, h2, h3⟩ := List.nodup_append.1 h
  have h4 := (List.nodup_cons.1 h2).1
  have e1 : ∀ K : List Ent, (∀ x ∈ K, x.key ≠ e.key) → K.filter (fun x => x.key != e.key) = K := fun K hK => List.filter_eq_self.2 (fun x hx => by simpa using hK x hx)
  rw [List.filter_append, List.filter_cons_of_neg (by simp), e1 L1 (fun x hx e2 => h3 _ (List.mem_map_of_mem hx) _ (by simp) e2), e1 L2 (fun x hx e2 => h4 (e2 ▸ List.mem_map_of_mem hx))]

def DropPost (B C M n : Nat) (most hits misses : Int) (L : List Ent) (k : Int) (w : World) (e : Ending) (w' : World) : Prop :=
  e = .returned (.tuple #[]) ∧ (∃ D', CacheAt B w' C M n most hits misses (L.filter fun x => x.key != k) D') ∧ Fr B w w'

theorem PtrCells.base {A : List Ent} (hB : Body Try.prog B w C M n most size hits misses A D) {a : Addr} (h : PtrCells C A a) : B ≤ a.block := by
  rcases h.block with h | ⟨e, he, h⟩
  · rw [h]; exact hB.bC
  · rw [h]; exact (hB.els e he).base
theorem Mv.fr {T : Addr → Prop} {w' : World} (h : Mv T w w') {A : List Ent} (hB : Body Try.prog B w C M n most size hits misses A D) (hT : ∀ a, T a → a.block = C ∨ ∃ e ∈ A, a.block = e.E) : Fr B w w' := by
  refine ⟨h.below (fun a ha => ?_), fun i cs t mk hh h1 h2 => ?_⟩
  · rcases hT a ha with h | ⟨e, he, h⟩
    · rw [h]; exact hB.bC
    · rw [h]; exact (hB.els e he).base
  · rw [h.block i]
    · exact hh
    · intro a ha e
      obtain ⟨cs', t', k1, k2⟩ := hB.blocks a (hT a ha)
      rw [e, hh] at k1
      injection k1 with k1
      injection k1 with _ k3 _
      rcases k2 with k2 | k2
      · exact h1 (k3.trans k2)
      · exact h2 (k3.trans k2)
theorem fr_turn {w' : World} {A : List Ent} (hB : Body Try.prog B w C M n most size hits misses A D) (hg : w.grownBy w' (some M)) : Fr B w w' := by
  obtain ⟨es, clock, hb, _⟩ := hB.mp
  refine ⟨⟨hg.os, hg.tape, hg.output, hg.size, fun i hi => ?_⟩, fun i cs t mk hh _ _ => ?_⟩
  · by_cases hs : i < w.heap.size
    · exact hg.block i hs (by intro e; injection e with e; have := hB.bM; omega)
    · have h1 := (Array.getElem?_eq_some_iff.1 hb).1
      have := hB.bM
      omega
  · rw [hg.block i (Array.getElem?_eq_some_iff.1 hh).1 (by intro e; injection e with e; subst e; rw [hb] at hh; cases hh)]
    exact hh
theorem Fr.drewN {w w' : World} (h : Fr B w w') (m : Nat) : Fr B w (w'.drewN m) := ⟨below_drewN h.below m, h.other⟩
theorem ext_drewN (w : World) (m : Nat) : Ext w (w.drewN m) := fun _ _ h => h

set_option maxHeartbeats 400000 in
theorem drop_hit (h : CacheAt B w C M n most hits misses L D) (hm : total L ≤ 100000000) {e : Ent} (he : e ∈ L)
    (hrun : (Instr.lookup 52 (.map (some M)) (.int .i64 e.key) true).run Try.prog w = .ok (.tuple #[.pointer (some ⟨e.E, 0, none⟩), .bool true]) w) :
    Calls Try.prog 11 #[.pointer (some ⟨C, 0, none⟩), .int .i64 e.key] w (DropPost B C M n most hits misses L e.key w) := by
  have h6 := h.body.c6
  obtain ⟨L1, L2, rfl⟩ := List.append_of_mem he
  have hnd := h.body.nodup (fun _ h => h) h.keys
  rw [List.map_append, List.map_cons] at hnd
  have hring := h.ring
  rw [List.map_append, List.map_cons] at hring
  have hal : Alive (L1 ++ e :: L2) (L1.map Ent.E ++ e.E :: L2.map Ent.E) := by
    intro x hx
    have : x ∈ (L1 ++ e :: L2).map Ent.E := by rw [List.map_append, List.map_cons]; exact hx
    obtain ⟨y, hy, h1⟩ := List.mem_map.1 this
    exact ⟨y, hy, h1⟩
  have O := Lib.hid (out_ring h.body hring hal hnd)
  have HF := Lib.hid (filter_key h.keys)
  have HD := Lib.hid (h.mp.del e.key)
  have HK := Lib.hid h.keys
  have hwf := (h.body.els e he).wf
  have HB := Lib.hid h.body
  have hn1 := total_nonneg L1
  have hn2 := total_nonneg L2
  have ht : total (L1 ++ e :: L2) = total L1 + ((e.bs.length : Int) + total L2) := total_app L1 (e :: L2)
  rw [ht] at hm
  have HT := Lib.hid ht
  obtain ⟨av, cv, hbv⟩ := (h.body.els e he).slice
  have HBV := Lib.hid hbv
  clear hring hal hnd h ht hbv
  go_enter Try.func11, Try.ntmps11
  go_wp2_with fail
  refine O.out.mono ?_
  rintro e' w1 ⟨rfl, hb1, hs1, hm1⟩
  have B1 := Lib.hid hb1
  have S1 := Lib.hid hs1
  have M1 := Lib.hid hm1
  have k1 := hb1.c1
  rw [HT.out] at k1
  have k2 := (hb1.els e he).val
  rw [HBV.out] at k2
  have k6 := hb1.c6
  obtain ⟨cs, hblk, hcs⟩ := hb1.blk
  have f1 := frozen_at hblk 1
  clear hblk hcs hb1 hs1 hm1
  generalize hlen : e.bs.length = len at *
  obtain ⟨t1, hT1⟩ : ∃ t, Hid (total L1 = t) := ⟨_, Lib.hid rfl⟩
  obtain ⟨t2, hT2⟩ : ∃ t, Hid (total L2 = t) := ⟨_, Lib.hid rfl⟩
  rw [hT1.out, hT2.out] at k1 hm
  rw [hT1.out] at hn1
  rw [hT2.out] at hn2
  go_wp2_with fail
  go_region
  have B2 := Lib.hid ((B1.out.setSize (t1 + ((len : Int) + t2) - (len : Int))).ext (ext_drewN _ 1))
  have hown := B2.out.mp
  have hkey := keyOf_int_mk (P := Try.prog) Try.underlying3 hwf
  have k6' := B2.out.c6
  generalize hW : (w1.setCell ⟨C, 1, none⟩ (.int .i64 (t1 + ((len : Int) + t2) - (len : Int)))).drewN 1 = W2 at *
  have hW' : (w1.setCell ⟨C, 1, none⟩ (.int .i64 (t1 + ((len : Int) + t2) - (len : Int)))).drew = W2 := hW
  simp only [hW']
  have HW := Lib.hid hW
  clear hW hW'
  go_wp2_with (at_delete; refine wpList_delete_own _ rfl _ _ 52 3 rfl 53 key_law Try.underlying52 ptrElem M n D rfl hown _ _ rfl hkey ?_)
  intro w3 hown3 hturn3
  have hturn := Lib.hid hturn3
  have H3 := Lib.hid hown3
  clear hturn3 hown3 hown hkey
  go_wp2_with fail
  all_goals (first | go_end0 | refine bodyPost_ret (results_none rfl _ _ _) rfl ?_)
  refine ⟨rfl, ⟨_, ⟨?_, ?_, ?_, HD.out⟩⟩, ?_⟩
  · rw [HF.out, total_app, hT1.out, hT2.out]
    have hb := (B2.out.turn hturn.out.grown H3.out).weaken (A' := L1 ++ L2) (fun x hx => by simp at hx ⊢; rcases hx with h | h <;> simp [h])
    rwa [show t1 + ((len : Int) + t2) - (len : Int) = t1 + t2 from by omega] at hb
  · rw [HF.out, List.map_append]
    refine seg_turn hturn.out.grown B2.out.mp ?_
    rw [← HW.out]
    exact (ext_drewN _ 1).seg (S1.out.count (by decide) _)
  · exact List.Nodup.sublist (List.Sublist.map _ List.filter_sublist) HK.out
  · refine (M1.out.fr HB.out (fun a ha => ha.block)).trans (Fr.trans ?_ (fr_turn B2.out hturn.out.grown))
    rw [← HW.out]
    exact ((Mv.set w1 ⟨C, 1, none⟩ _ (fun a => a = ⟨C, 1, none⟩) rfl).fr B1.out (fun a ha => .inl (by rw [ha]))).drewN 1
end
end Go.Proofs.Ytdodjjnejpdgcaa
