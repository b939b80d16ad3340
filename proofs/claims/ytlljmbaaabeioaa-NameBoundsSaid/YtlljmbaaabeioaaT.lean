/- Texts as lists of bytes: what stands between slashes. No Go text in sight. -/
import Derived.Lib.IndexMore
import Derived.WalkKit
namespace Go.Proofs.Ytlljmbaaabeioaa

/-- a text of these bytes -/
def str (l : List UInt8) : Value := .string ⟨l.toArray⟩
theorem str_eq (s : ByteArray) : Value.string s = str s.data.toList := by simp [str]
theorem str_inj {a b : List UInt8} (h : str a = str b) : a = b := by
  simp only [str, Value.string.injEq, ByteArray.mk.injEq] at h
  simpa using congrArg Array.toList h

def headP (p : List UInt8) : List UInt8 := p.takeWhile (fun b => b != 47)
def restP (p : List UInt8) : List UInt8 := (p.dropWhile (fun b => b != 47)).drop 1

theorem index_slash (s : List UInt8) : Lib.index s [47] = if s.contains 47 then ((headP s).length : Int) else -1 := by
  induction s with
  | nil => simp [Lib.index]
  | cons b l ih =>
    unfold Lib.index
    by_cases h : b = 47
    · subst h; simp [headP, List.isPrefixOf]
    · have h1 : (47 == b) = false := beq_eq_false_iff_ne.2 (fun e => h e.symm)
      have h2 : (b != 47) = true := by simpa using h
      rw [ih]
      have h4 : headP (b :: l) = b :: headP l := by simp [headP, h2]
      have h5 : (b :: l).contains 47 = l.contains 47 := by rw [List.contains_cons, h1, Bool.false_or]
      rw [h4, h5]
      simp only [List.isPrefixOf, h1, Bool.false_and, Bool.false_eq_true, if_false]
      cases hc : l.contains 47
      · simp
      · have h3 : (((headP l).length : Int) == -1) = false := by rw [beq_eq_false_iff_ne]; omega
        simp [h3]

theorem tw_self : ∀ {l : List UInt8}, (∀ x ∈ l, (x != 47) = true) → l.takeWhile (fun b => b != 47) = l ∧ l.dropWhile (fun b => b != 47) = []
  | [], _ => ⟨rfl, rfl⟩
  | b :: l, h => by
    have h1 := h b (by simp)
    have h2 := tw_self (l := l) (fun x hx => h x (by simp [hx]))
    simp only [List.takeWhile_cons, List.dropWhile_cons, h1, if_true, h2.1, h2.2, and_self]

theorem not_mem_take {l : List UInt8} (h : l.contains 47 = false) : headP l = l ∧ restP l = [] := by
  have h' : ∀ x ∈ l, (x != 47) = true := by
    intro x hx
    have : (47 : UInt8) ∉ l := by simpa using h
    simp; intro e; subst e; exact this hx
  exact ⟨(tw_self h').1, by unfold restP; rw [(tw_self h').2]; rfl⟩

theorem head_drop (l : List UInt8) : l = headP l ++ l.dropWhile (fun b => b != 47) := (List.takeWhile_append_dropWhile).symm

theorem cut_slash (s : List UInt8) : ∃ b, Lib.cut s [47] = (headP s, restP s, b) := by
  unfold Lib.cut
  rw [index_slash]
  by_cases hc : s.contains 47 = true
  · refine ⟨true, ?_⟩
    have h1 := head_drop s
    simp only [hc, if_true]
    rw [if_pos (by omega)]
    have e1 : s.take (headP s).length = headP s := by
      have h2 : (headP s ++ s.dropWhile (fun b => b != 47)).take (headP s).length = headP s := by simp
      rwa [← h1] at h2
    have e2 : s.drop ((headP s).length + 1) = restP s := by
      have h2 : (headP s ++ s.dropWhile (fun b => b != 47)).drop ((headP s).length + 1) = restP s := by
        rw [List.drop_append]; simp [restP]
      rwa [← h1] at h2
    simp [e1, e2]
  · have hc' : s.contains 47 = false := by simpa using hc
    refine ⟨false, ?_⟩
    simp only [hc', Bool.false_eq_true, if_false]
    rw [if_neg (by omega), (not_mem_take hc').1, (not_mem_take hc').2]

theorem rest_lt {p : List UInt8} (h : p ≠ []) : (restP p).length < p.length := by
  have h1 := congrArg List.length (head_drop p)
  rw [List.length_append] at h1
  unfold restP
  rw [List.length_drop]
  have : 0 < p.length := List.length_pos_iff.2 h
  omega
theorem rest_le (p : List UInt8) : (restP p).length ≤ p.length := by
  by_cases h : p = []
  · subst h; simp [restP]
  · have := rest_lt h; omega

def keepP (s : List UInt8) : Bool := s != [] && s != [46]
/-- what stands between slashes, without what is empty or a dot -/
def partsOf (p : List UInt8) : List (List UInt8) :=
  if _h : p = [] then [] else (if keepP (headP p) then [headP p] else []) ++ partsOf (restP p)
termination_by p.length
decreasing_by exact rest_lt _h

theorem parts_nil : partsOf [] = [] := by rw [partsOf, dif_pos rfl]
theorem parts_keep {p : List UInt8} (h : p ≠ []) (hk : keepP (headP p) = true) : partsOf p = headP p :: partsOf (restP p) := by
  rw [partsOf, dif_neg h, if_pos hk]; rfl
theorem parts_skip {p : List UInt8} (h : p ≠ []) (hk : keepP (headP p) = false) : partsOf p = partsOf (restP p) := by
  rw [partsOf, dif_neg h, if_neg (by simp [hk])]; rfl
theorem parts_len : ∀ (n : Nat) (p : List UInt8), p.length ≤ n → (partsOf p).length ≤ p.length
  | n, [], _ => by rw [parts_nil]; exact Nat.le_refl _
  | 0, b :: p, h => by simp at h
  | n + 1, b :: p, h => by
    have h1 : (b :: p) ≠ [] := by simp
    have h2 := rest_lt h1
    have h3 := parts_len n (restP (b :: p)) (by omega)
    cases hk : keepP (headP (b :: p))
    · rw [parts_skip h1 hk]; omega
    · rw [parts_keep h1 hk, List.length_cons]; omega
end Go.Proofs.Ytlljmbaaabeioaa
