/- Parts joined, and split again: plain facts. No Go text in sight. -/
import Derived.Lib.Join
import Derived.Test.YtlljmbaaabeioaaT
namespace Go.Proofs.Ytlljmbaaabeioaa

def joinP (ps : List (List UInt8)) : List UInt8 := Lib.join ps [47]
theorem joinP_nil : joinP [] = [] := rfl
theorem joinP_one (p : List UInt8) : joinP [p] = p := Lib.join_one _ _
theorem joinP_cons (p q : List UInt8) (r : List (List UInt8)) : joinP (p :: q :: r) = p ++ 47 :: joinP (q :: r) := by
  unfold joinP
  rw [Lib.join_cons, Lib.join_cons]
  simp [Lib.joinTail]

/-- a part that may stand between slashes -/
def Good (p : List UInt8) : Prop := p ≠ [] ∧ p ≠ [46] ∧ p.contains 47 = false

theorem not_slash {p : List UInt8} (h : p.contains 47 = false) : ∀ x ∈ p, (x != 47) = true := by
  intro x hx
  have h2 : (47 : UInt8) ∉ p := by simpa using h
  simp; intro e; subst e; exact h2 hx
theorem head_app {p q : List UInt8} (h : p.contains 47 = false) : headP (p ++ 47 :: q) = p ∧ restP (p ++ 47 :: q) = q := by
  have h' := not_slash h
  unfold headP restP
  rw [List.takeWhile_append_of_pos h', List.dropWhile_append_of_pos h']
  simp
theorem keep_good {p : List UInt8} (h : Good p) : keepP p = true := by
  unfold keepP; simp [h.1, h.2.1]
theorem parts_join : ∀ (ps : List (List UInt8)), (∀ p ∈ ps, Good p) → partsOf (joinP ps) = ps
  | [], _ => by rw [joinP_nil, parts_nil]
  | [p], h => by
    have hg := h p (by simp)
    have h2 := not_mem_take hg.2.2
    rw [joinP_one, parts_keep hg.1 (by rw [h2.1]; exact keep_good hg), h2.1, h2.2, parts_nil]
  | p :: q :: r, h => by
    have hg := h p (by simp)
    have h2 := head_app (q := joinP (q :: r)) hg.2.2
    rw [joinP_cons, parts_keep (by simp) (by rw [h2.1]; exact keep_good hg), h2.1, h2.2, parts_join (q :: r) (fun x hx => h x (List.mem_cons_of_mem _ hx))]
theorem join_mem {c : UInt8} (hc : c ≠ 47) : ∀ (ps : List (List UInt8)), (∀ p ∈ ps, p.contains c = false) → (joinP ps).contains c = false
  | [], _ => rfl
  | [p], h => by rw [joinP_one]; exact h p (by simp)
  | p :: q :: r, h => by
    rw [joinP_cons, List.contains_eq_any_beq, List.any_append, List.any_cons, ← List.contains_eq_any_beq, ← List.contains_eq_any_beq, h p (by simp), join_mem hc (q :: r) (fun x hx => h x (List.mem_cons_of_mem _ hx))]
    have h3 : (c == 47) = false := beq_eq_false_iff_ne.2 hc
    rw [h3]; rfl
theorem join_len (ps : List (List UInt8)) (n : Nat) (h : ∀ p ∈ ps, p.length ≤ n) : (joinP ps).length ≤ ps.length * (n + 1) := by
  induction ps with
  | nil => simp [joinP_nil]
  | cons p r ih =>
    have h1 := h p (by simp)
    have h2 := ih (fun x hx => h x (by simp [hx]))
    cases r with
    | nil => rw [joinP_one]; simp; omega
    | cons q r => rw [joinP_cons, List.length_append, List.length_cons]; simp only [List.length_cons] at h2 ⊢; rw [Nat.add_mul]; omega
theorem join_step (ps : List (List UInt8)) (k : Nat) (h : k < ps.length) : joinP (ps.take (k + 1)) = (if k = 0 then [] else joinP (ps.take k) ++ [47]) ++ ps[k] := by
  cases ps with
  | nil => simp at h
  | cons x r =>
    cases k with
    | zero => simp [joinP_one]
    | succ k =>
      simp only [List.take_succ_cons, Nat.succ_ne_zero, if_false, List.getElem_cons_succ]
      have hk : k < r.length := by simpa using h
      unfold joinP
      rw [Lib.join_cons, Lib.join_cons, Lib.joinTail_take_succ [47] r k r[k] (by rw [List.getElem?_eq_getElem hk])]
      simp [List.append_assoc]
end Go.Proofs.Ytlljmbaaabeioaa
