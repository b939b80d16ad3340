/- The plain law behind CacheTrue: what is kept under a key is what was put last under it. -/
import Derived.Test.YtdodjjnejpdgcaaI
namespace Go.Proofs.Ytdodjjnejpdgcaa

def isOp (x : ActD) (k : Int) : Bool := x.k == k && (x.d == 1 || x.d == 2)
def lastOf (acts : List ActD) : Nat → Int → Int
  | 0, _ => -1
  | i + 1, k => match acts[i]? with
    | some x => if isOp x k = true then (i : Int) else lastOf acts i k
    | none => lastOf acts i k
theorem lastOf_lt (acts : List ActD) : ∀ i k, -1 ≤ lastOf acts i k ∧ lastOf acts i k < i
  | 0, k => by simp [lastOf]
  | i + 1, k => by
    have := lastOf_lt acts i k
    unfold lastOf
    split
    · split <;> omega
    · omega
theorem lastOf_hit {acts : List ActD} {i : Nat} {x : ActD} (h : acts[i]? = some x) {k : Int} (hx : isOp x k = true) : lastOf acts (i + 1) k = (i : Int) := by
  show (match acts[i]? with | some x => if isOp x k = true then (i : Int) else lastOf acts i k | none => lastOf acts i k) = _
  rw [h]; simp [hx]
theorem lastOf_miss {acts : List ActD} {i : Nat} {x : ActD} (h : acts[i]? = some x) {k : Int} (hx : isOp x k = false) : lastOf acts (i + 1) k = lastOf acts i k := by
  show (match acts[i]? with | some x => if isOp x k = true then (i : Int) else lastOf acts i k | none => lastOf acts i k) = _
  rw [h]; simp [hx]

def Good (acts : List ActD) (i : Nat) (e : Ent) : Prop := ∃ (j : Nat) (x : ActD), lastOf acts i e.key = (j : Int) ∧ acts[j]? = some x ∧ x.d = 1 ∧ x.bs = e.bs
def Inv (acts : List ActD) (i : Nat) (most : Int) (L : List Ent) : Prop := total L ≤ most ∧ ∀ e ∈ L, Good acts i e

theorem evict_ind {P : List Ent → Prop} {most : Int} (hd : ∀ L, L ≠ [] → most < total L → P L → P L.dropLast) : ∀ (n : Nat) (L : List Ent), L.length ≤ n → P L → P (evict most L)
  | 0, L, hn, h => by
    obtain rfl : L = [] := List.eq_nil_of_length_eq_zero (by omega)
    rw [evict, dif_neg (by simp)]; exact h
  | n + 1, L, hn, h => by
    by_cases c : most < total L ∧ L ≠ []
    · rw [evict_gt c.1 c.2]
      exact evict_ind hd n _ (by rw [List.length_dropLast]; omega) (hd L c.2 c.1 h)
    · rw [evict, dif_neg c]; exact h
theorem evict_total {most : Int} (h0 : 0 ≤ most) (L : List Ent) : total (evict most L) ≤ most := by
  have h : ∀ (n : Nat) (L : List Ent), L.length ≤ n → total (evict most L) ≤ most := by
    intro n
    induction n with
    | zero =>
      intro L hn
      obtain rfl : L = [] := List.eq_nil_of_length_eq_zero (by omega)
      rw [evict, dif_neg (by simp)]; exact h0
    | succ n ih =>
      intro L hn
      by_cases c : most < total L ∧ L ≠ []
      · rw [evict_gt c.1 c.2]
        exact ih _ (by rw [List.length_dropLast]; omega)
      · rw [evict, dif_neg c]
        by_cases e : L = []
        · subst e; exact h0
        · have : ¬ most < total L := fun h => c ⟨h, e⟩
          omega
  exact h _ L (Nat.le_refl _)
theorem evict_sub {most : Int} (L : List Ent) : ∀ e ∈ evict most L, e ∈ L :=
  evict_ind (P := fun K => ∀ e ∈ K, e ∈ L) (fun K _ _ h e he => h e (List.dropLast_subset K he)) _ L (Nat.le_refl _) (fun _ h => h)
theorem evict_head {most : Int} (e : Ent) (L : List Ent) (h : (e.bs.length : Int) ≤ most) : ∃ K, evict most (e :: L) = e :: K :=
  evict_ind (P := fun K => ∃ K', K = e :: K') (fun K _ hm hK => by
    obtain ⟨K', rfl⟩ := hK
    cases K' with
    | nil => simp only [total] at hm; omega
    | cons a K' => exact ⟨(a :: K').dropLast, rfl⟩) _ (e :: L) (Nat.le_refl _) ⟨L, rfl⟩

theorem Inv.other {acts : List ActD} {i : Nat} {most : Int} {L : List Ent} {x : ActD} (h : Inv acts i most L) (hx : acts[i]? = some x) (hd : x.d ≠ 1 ∧ x.d ≠ 2) : Inv acts (i + 1) most L :=
  ⟨h.1, fun e he => by
    obtain ⟨j, y, h1, h2⟩ := h.2 e he
    exact ⟨j, y, by rw [lastOf_miss hx (by simp [isOp, hd.1, hd.2])]; exact h1, h2⟩⟩
theorem Inv.drop {acts : List ActD} {i : Nat} {most : Int} {L : List Ent} {x : ActD} (h : Inv acts i most L) (hx : acts[i]? = some x) : Inv acts (i + 1) most (L.filter fun e => e.key != x.k) :=
  ⟨Int.le_trans (filter_total L _) h.1, fun e he => by
    obtain ⟨h1, h2⟩ := List.mem_filter.1 he
    obtain ⟨j, y, h3, h4⟩ := h.2 e h1
    refine ⟨j, y, ?_, h4⟩
    rw [lastOf_miss hx]
    · exact h3
    · have : e.key ≠ x.k := by simpa using h2
      simp [isOp, Ne.symm this]⟩
theorem Inv.put {acts : List ActD} {i : Nat} {most : Int} {L : List Ent} {x : ActD} (h0 : 0 ≤ most) (h : Inv acts i most L) (hx : acts[i]? = some x) (hd : x.d = 1) (E : Nat) (bv : Value) : Inv acts (i + 1) most (evict most (⟨x.k, x.bs, E, bv⟩ :: L.filter fun e => e.key != x.k)) := by
  have hr := h.drop hx
  refine ⟨evict_total h0 _, fun e he => ?_⟩
  rcases List.mem_cons.1 (evict_sub _ e he) with rfl | he
  · exact ⟨i, x, lastOf_hit hx (by simp [isOp, hd]), hx, hd, rfl⟩
  · exact hr.2 e he
/-- behind the act: what Get is to find -/
def Kept (x : ActD) (most : Int) (L : List Ent) : Prop := x.d = 1 → (x.bl : Int) ≤ most → ∃ e ∈ L, e.key = x.k
theorem Inv.front {acts : List ActD} {i : Nat} {most : Int} {L : List Ent} {e : Ent} (h : Inv acts i most L) (he : e ∈ L) (hk : (L.map Ent.key).Nodup) : Inv acts i most (e :: L.filter fun y => y.key != e.key) := by
  obtain ⟨L1, L2, rfl⟩ := List.append_of_mem he
  rw [filter_key hk]
  refine ⟨?_, fun y hy => h.2 y ?_⟩
  · have h1 := h.1
    rw [total_app] at h1
    simp only [total] at h1 ⊢
    rw [total_app]; omega
  · simp only [List.mem_cons, List.mem_append] at hy ⊢
    rcases hy with h | h | h <;> simp [h]
end Go.Proofs.Ytdodjjnejpdgcaa
