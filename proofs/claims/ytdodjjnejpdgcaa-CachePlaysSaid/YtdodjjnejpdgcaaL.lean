/- The reference's lists in memory: plain facts; 'append' of a slice that may be nil. -/
import Derived.Test.YtdodjjnejpdgcaaJ
namespace Go.Proofs.Ytdodjjnejpdgcaa
open Go.RowKit Go.Maps

/-- bytes that the reference keeps -/
def BAt (ok : Nat → Prop) (w : World) (bv : Value) (bs : List Int) : Prop :=
  ∃ b c cs, bv = .slice (some ⟨b, 0, none⟩) bs.length c ∧ ok b ∧ w.heap[b]? = some (.cells cs 5 (0, 0)) ∧ ∀ j, j < bs.length → cs[j]? = some (.int .u8 (bs.getD j 0))

/-- the reference's list -/
def RAt (ok : Nat → Prop) (w : World) (lv : Value) (L : List Ent) : Prop :=
  ∃ a c, lv = .slice a L.length c ∧ L.length ≤ c ∧ (a = none → L = [] ∧ c = 0) ∧ (L = [] ∨ ∃ g cs, a = some ⟨g, 0, none⟩ ∧ ok g ∧ w.heap[g]? = some (.cells cs 63 (0, 0)) ∧
    ∀ i (h : i < L.length), cs[i * 2]? = some (.int .i64 L[i].key) ∧ ∃ bv, cs[i * 2 + 1]? = some bv ∧ BAt ok w bv L[i].bs)

theorem BAt.keep {ok ok' : Nat → Prop} {w w' : World} {bv : Value} {bs : List Int} (h : BAt ok w bv bs) (hk : ∀ (i : Nat) (cs : Array Value) (t : TypeId), (t = 5 ∨ t = 63) → ok i → w.heap[i]? = some (.cells cs t (0, 0)) → ok' i ∧ w'.heap[i]? = some (.cells cs t (0, 0))) : BAt ok' w' bv bs := by
  obtain ⟨b, c, cs, h1, h2, h3, h4⟩ := h
  obtain ⟨k1, k2⟩ := hk b cs 5 (.inl rfl) h2 h3
  exact ⟨b, c, cs, h1, k1, k2, h4⟩
theorem RAt.keep {ok ok' : Nat → Prop} {w w' : World} {lv : Value} {L : List Ent} (h : RAt ok w lv L) (hk : ∀ (i : Nat) (cs : Array Value) (t : TypeId), (t = 5 ∨ t = 63) → ok i → w.heap[i]? = some (.cells cs t (0, 0)) → ok' i ∧ w'.heap[i]? = some (.cells cs t (0, 0))) : RAt ok' w' lv L := by
  obtain ⟨a, c, h1, hc, hn, h2⟩ := h
  refine ⟨a, c, h1, hc, hn, ?_⟩
  rcases h2 with h2 | ⟨g, cs, h3, h4, h5, h6⟩
  · exact .inl h2
  · obtain ⟨k1, k2⟩ := hk g cs 63 (.inr rfl) h4 h5
    refine .inr ⟨g, cs, h3, k1, k2, fun i hi => ?_⟩
    obtain ⟨h7, bv, h8, h9⟩ := h6 i hi
    exact ⟨h7, bv, h8, h9.keep hk⟩
theorem RAt.ext {ok : Nat → Prop} {w w' : World} {lv : Value} {L : List Ent} (h : RAt ok w lv L) (he : Ext w w') : RAt ok w' lv L := h.keep fun _ _ _ _ h1 h2 => ⟨h1, he _ _ h2⟩
theorem BAt.ext {ok : Nat → Prop} {w w' : World} {bv : Value} {bs : List Int} (h : BAt ok w bv bs) (he : Ext w w') : BAt ok w' bv bs := h.keep fun _ _ _ _ h1 h2 => ⟨h1, he _ _ h2⟩
theorem RAt.fr {ok : Nat → Prop} {B : Nat} {w w' : World} {lv : Value} {L : List Ent} (h : RAt ok w lv L) (he : Fr B w w') : RAt ok w' lv L := h.keep fun i cs t ht h1 h2 => ⟨h1, he.other _ _ _ _ h2 (by rcases ht with rfl | rfl <;> decide) (by rcases ht with rfl | rfl <;> decide)⟩
/-- a store into a block of another type -/
theorem heap_set_other {w : World} {r : Nat} {cr : Array Value} {tr : TypeId} {mk : Nat × Nat} (hr : w.heap[r]? = some (.cells cr tr mk)) (o : Nat) (v : Value) {i : Nat} {cs : Array Value} {t : TypeId} (ht : t ≠ tr) (hi : w.heap[i]? = some (.cells cs t (0, 0))) : (w.setCell ⟨r, o, none⟩ v).heap[i]? = some (.cells cs t (0, 0)) := by
  rw [Below.heap_setCell w _ v i (fun e => ?_)]
  · exact hi
  · rw [e] at hi
    have e2 := hr.symm.trans hi
    injection e2 with e2
    injection e2 with _ e3 _
    exact ht e3.symm
theorem RAt.set {ok : Nat → Prop} {w : World} {lv : Value} {L : List Ent} (h : RAt ok w lv L) {r : Nat} {cr : Array Value} {tr : TypeId} {mk : Nat × Nat} (hr : w.heap[r]? = some (.cells cr tr mk)) (h5 : tr ≠ 5) (h6 : tr ≠ 63) (o : Nat) (v : Value) : RAt ok (w.setCell ⟨r, o, none⟩ v) lv L :=
  h.keep fun i cs t ht h1 h2 => ⟨h1, heap_set_other hr o v (show t ≠ tr from by rcases ht with rfl | rfl; exact h5.symm; exact h6.symm) h2⟩

/-- a cell of a block that is known -/
theorem cell_of {w : World} {b : Nat} {cs : Array Value} {t : TypeId} {mk : Nat × Nat} (h : w.heap[b]? = some (.cells cs t mk)) {o : Nat} {v : Value} (hv : cs[o]? = some v) : w.cell? ⟨b, o, none⟩ = some v := by
  simp [World.cell?, h, hv]

theorem BAt.row {ok : Nat → Prop} {w : World} {B : Nat} {bv : Value} {bs : List Int} (h : w.ownsRow B 5 1 bv bs.length (bs.map (Value.int .u8))) (hn : bv ≠ .slice none 0 0) (hok : ∀ i, B ≤ i → ok i) : BAt ok w bv bs := by
  obtain ⟨h0, h2 | ⟨g, cap, cur, h1, h2, h3, h4, h5, h6, h7⟩⟩ := h
  · exact absurd h2.1 hn
  · refine ⟨g, cap, cur, h1, hok g h2, h3, fun j hj => ?_⟩
    have : (cur.toList.take (bs.length * 1))[j]? = some (.int .u8 (bs.getD j 0)) := by
      rw [h7, List.getElem?_map, List.getElem?_eq_getElem hj]; simp [List.getElem?_eq_getElem hj]
    rw [List.getElem?_take_of_lt (by omega)] at this
    simpa using this

/-- the cells of the reference's list -/
def KRow (bvs : List Value) (L : List Ent) : List Value := (List.zipWith (fun (e : Ent) bv => [Value.int .i64 e.key, bv]) L bvs).flatten

theorem krow_len {bvs : List Value} : ∀ {L : List Ent}, bvs.length = L.length → (KRow bvs L).length = L.length * 2 := by
  induction bvs with
  | nil => intro L h; cases L <;> simp_all [KRow]
  | cons b bvs ih =>
    intro L h
    cases L with
    | nil => simp at h
    | cons e L =>
      have := ih (L := L) (by simpa using h)
      simp only [KRow, List.zipWith_cons_cons, List.flatten_cons, List.length_append, List.length_cons, List.length_nil] at this ⊢
      omega
theorem krow_at {bvs : List Value} : ∀ {L : List Ent} (_ : bvs.length = L.length) (i : Nat) (h : i < L.length) (h' : i < bvs.length), (KRow bvs L)[i * 2]? = some (.int .i64 L[i].key) ∧ (KRow bvs L)[i * 2 + 1]? = some bvs[i] := by
  induction bvs with
  | nil => intro L h i h1 h2; simp at h2
  | cons b bvs ih =>
    intro L h i h1 h2
    cases L with
    | nil => simp at h
    | cons e L =>
      cases i with
      | zero => simp [KRow]
      | succ i =>
        have := ih (L := L) (by simpa using h) i (by simpa using h1) (by simpa using h2)
        have e1 : KRow (b :: bvs) (e :: L) = Value.int .i64 e.key :: b :: KRow bvs L := by simp [KRow]
        rw [e1]
        refine ⟨?_, ?_⟩
        · rw [show (i + 1) * 2 = i * 2 + 1 + 1 from by omega]; simpa using this.1
        · rw [show (i + 1) * 2 + 1 = i * 2 + 1 + 1 + 1 from by omega]; simpa using this.2
theorem krow_snoc {bvs : List Value} {bv : Value} : ∀ {L : List Ent} {e : Ent}, bvs.length = L.length → KRow (bvs ++ [bv]) (L ++ [e]) = KRow bvs L ++ [.int .i64 e.key, bv] := by
  induction bvs with
  | nil => intro L e h; cases L <;> simp_all [KRow]
  | cons b bvs ih =>
    intro L e h
    cases L with
    | nil => simp at h
    | cons x L =>
      have := ih (L := L) (e := e) (by simpa using h)
      simp only [KRow, List.cons_append, List.zipWith_cons_cons, List.flatten_cons] at this ⊢
      rw [this, List.append_assoc]
theorem krow_one {bv : Value} {e : Ent} : KRow [bv] [e] = [.int .i64 e.key, bv] := rfl
theorem krow_app {b1 b2 : List Value} {L1 L2 : List Ent} (h : b1.length = L1.length) : KRow (b1 ++ b2) (L1 ++ L2) = KRow b1 L1 ++ KRow b2 L2 := by
  unfold KRow
  rw [List.zipWith_append h.symm, List.flatten_append]
theorem krow_one' {bvs : List Value} {L : List Ent} (hb : ∀ v ∈ bvs, v.oneCell' = true) : ∀ u ∈ KRow bvs L, u.oneCell' = true := by
  intro u hu
  unfold KRow at hu
  obtain ⟨l, hl, hu⟩ := List.mem_flatten.1 hu
  rw [List.mem_iff_getElem?] at hl
  obtain ⟨i, hi⟩ := hl
  rw [List.getElem?_zipWith] at hi
  cases h1 : L[i]? with
  | none => simp [h1] at hi
  | some e =>
    cases h2 : bvs[i]? with
    | none => simp [h1, h2] at hi
    | some bv =>
      simp [h1, h2] at hi
      subst hi
      rcases List.mem_cons.1 hu with rfl | hu
      · rfl
      · simp at hu; subst hu
        exact hb _ (List.mem_of_getElem? h2)

def Bvs (ok : Nat → Prop) (w : World) (bvs : List Value) (L : List Ent) : Prop := bvs.length = L.length ∧ ∀ i (h : i < L.length) (h' : i < bvs.length), BAt ok w bvs[i] L[i].bs

theorem Bvs.nil (ok : Nat → Prop) (w : World) : Bvs ok w [] [] := ⟨rfl, fun i h => by simp at h⟩
theorem Bvs.keep {ok ok' : Nat → Prop} {w w' : World} {bvs : List Value} {L : List Ent} (h : Bvs ok w bvs L) (hk : ∀ (i : Nat) (cs : Array Value) (t : TypeId), (t = 5 ∨ t = 63) → ok i → w.heap[i]? = some (.cells cs t (0, 0)) → ok' i ∧ w'.heap[i]? = some (.cells cs t (0, 0))) : Bvs ok' w' bvs L :=
  ⟨h.1, fun i h1 h2 => (h.2 i h1 h2).keep hk⟩
theorem Bvs.cons {ok : Nat → Prop} {w : World} {bv : Value} {bvs : List Value} {e : Ent} {L : List Ent} (hb : BAt ok w bv e.bs) (h : Bvs ok w bvs L) : Bvs ok w (bv :: bvs) (e :: L) := by
  refine ⟨by simp [h.1], fun i h1 h2 => ?_⟩
  cases i with
  | zero => exact hb
  | succ i => exact h.2 i (by simpa using h1) (by simpa using h2)
theorem Bvs.snoc {ok : Nat → Prop} {w : World} {bv : Value} {bvs : List Value} {e : Ent} {L : List Ent} (h : Bvs ok w bvs L) (hb : BAt ok w bv e.bs) : Bvs ok w (bvs ++ [bv]) (L ++ [e]) := by
  refine ⟨by simp [h.1], fun i h1 h2 => ?_⟩
  by_cases hi : i < L.length
  · rw [List.getElem_append_left hi, List.getElem_append_left (by have := h.1; omega)]
    exact h.2 i hi _
  · have h3 : i = L.length := by simp at h1; omega
    subst h3
    have h4 := h.1
    rw [List.getElem_append_right (by omega), List.getElem_append_right (by omega)]
    simpa [h4] using hb
theorem BAt.one {ok : Nat → Prop} {w : World} {bv : Value} {bs : List Int} (h : BAt ok w bv bs) : bv.oneCell' = true := by
  obtain ⟨b, c, cs, rfl, _⟩ := h; rfl
theorem Bvs.one {ok : Nat → Prop} {w : World} {bvs : List Value} {L : List Ent} (h : Bvs ok w bvs L) : ∀ v ∈ bvs, v.oneCell' = true := by
  intro v hv
  obtain ⟨i, hi, rfl⟩ := List.getElem_of_mem hv
  exact (h.2 i (by have := h.1; omega) hi).one

/-- the list out of a row that the call owns -/
theorem RAt.of_row {ok : Nat → Prop} {w : World} {B : Nat} {lv : Value} {L : List Ent} {bvs : List Value} (h : w.ownsRow B 63 2 lv L.length (KRow bvs L)) (hb : Bvs ok w bvs L) (hok : ∀ i, B ≤ i → ok i) : RAt ok w lv L := by
  obtain ⟨h0, h2 | ⟨g, cap, cur, h1, h2, h3, h4, h5, h6, h7⟩⟩ := h
  · exact ⟨none, 0, by rw [h2.1, h2.2], by omega, fun _ => ⟨List.eq_nil_of_length_eq_zero h2.2, rfl⟩, .inl (List.eq_nil_of_length_eq_zero h2.2)⟩
  · refine ⟨_, cap, h1, h4, fun h => (by cases h), .inr ⟨g, cur, rfl, hok g h2, h3, fun i hi => ?_⟩⟩
    have hi' : i < bvs.length := by have := hb.1; omega
    obtain ⟨k1, k2⟩ := krow_at hb.1 i hi hi'
    rw [← h7, List.getElem?_take_of_lt (by omega)] at k1 k2
    exact ⟨by simpa using k1, bvs[i], by simpa using k2, hb.2 i hi hi'⟩

/-- the list's own cells, as a source of 'append' -/
theorem RAt.news {ok : Nat → Prop} {w : World} {lv : Value} {L : List Ent} (h : RAt ok w lv L) : ∃ a c bvs, lv = .slice a L.length c ∧ (a = none → L = [] ∧ c = 0) ∧ Bvs ok w bvs L ∧ ∀ ad, a = some ad → ∀ j u, (KRow bvs L)[j]? = some u → w.cell? (ad.add j) = some u := by
  obtain ⟨a, c, h1, hc, hn, h2⟩ := h
  rcases h2 with rfl | ⟨g, cs, rfl, h4, h5, h6⟩
  · exact ⟨a, c, [], h1, hn, Bvs.nil _ _, fun ad _ j u hj => by simp [KRow] at hj⟩
  · refine ⟨_, c, (List.range L.length).map (fun i => (cs[i * 2 + 1]?).getD (.bool false)), h1, hn, ⟨by simp, fun i h1 h2 => ?_⟩, ?_⟩
    · obtain ⟨_, bv, h8, h9⟩ := h6 i h1
      simpa [h8] using h9
    · intro ad ha j u hj
      cases ha
      have hlen : ((List.range L.length).map (fun i => (cs[i * 2 + 1]?).getD (Value.bool false))).length = L.length := by simp
      have hjl := (List.getElem?_eq_some_iff.1 hj).1
      rw [krow_len hlen] at hjl
      have hi : j / 2 < L.length := by omega
      obtain ⟨k1, k2⟩ := krow_at hlen (j / 2) hi (by simpa using hi)
      obtain ⟨h7, bv, h8, h9⟩ := h6 (j / 2) hi
      rw [addr_add]
      refine cell_of h5 ?_
      rcases Nat.mod_two_eq_zero_or_one j with hm | hm
      · have e : j / 2 * 2 = j := by omega
        rw [e] at k1 h7
        rw [hj] at k1
        rw [k1]; simpa using h7
      · have e : j / 2 * 2 + 1 = j := by omega
        rw [e] at k2 h8
        rw [hj] at k2
        rw [k2]
        simp [e, h8]
theorem info63 : (Try.prog.info? 63).map (fun i => (i.zero, i.size, i.bytes)) = some (some (.agg #[.int .i64 0, .slice none 0 0]), 2, 32) := by kernel_rfl

/-- 'append' to a row that the call owns, of a slice that may be nil -/
theorem wpList_append_src {P : Program} {w : World} {ops : Array Oper} {rest : List Oper} {o : Oper} {a : Act} {Q : Exit → Act → World → Prop} (hgd : o.guard = none) (s x : Operand) (t : TypeId)
    (ho : o.op = .call { callee := .builtin .append, args := #[s, x], argTypes := #[t, t] })
    (base : Nat) (e : TypeId) (i : TypeInfo) (z : Value) (size bytes : Nat) (ht : P.underlying t = some (.slice e)) (hi : P.info? e = some i) (hz : i.zero = some z)
    (hsize : i.size = size) (hby : i.bytes = bytes) (hzs : z.cells.size = size) (hsz : 0 < size)
    (v : Value) (n : Nat) (xs : List Value) (hs : a.eval s = v) (hown : w.ownsRow base e size v n xs)
    (ad : Option Addr) (m c : Nat) (news : List Value) (hx : a.eval x = .slice ad m c) (hnone : ad = none → m = 0 ∧ c = 0) (hl : news.length = m * size) (hnews : ∀ b, ad = some b → ∀ j u, news[j]? = some u → w.cell? (b.add j) = some u) (h1 : ∀ u ∈ news, u.oneCell' = true)
    (h63 : n + m ≤ maxLen) (hbytes : (n + m) * bytes ≤ 140737488355328) (hbase : base ≤ w.heap.size)
    (h : ∀ v' w', w'.ownsRow base e size v' (n + m) (xs ++ news) → w.grownBy w' v.ownBlock → (v' = .slice none 0 0 ↔ v = .slice none 0 0 ∧ m = 0) → wpList P ops Q rest (a.put o.dst v') w') :
    wpList P ops Q (o :: rest) a w := by
  cases ad with
  | some b => exact wpList_append_own _ hgd s x t ho base e i z size bytes ht hi hz hsize hby hzs hsz v n xs hs hown b m c news hx hl (hnews b rfl) h1 h63 hbytes hbase h
  | none =>
    obtain ⟨rfl, rfl⟩ := hnone rfl
    obtain rfl : news = [] := List.eq_nil_of_length_eq_zero (by simpa using hl)
    refine wpList_plain hgd fun K hK => ?_
    have hr := run_append_owned_none (P := P) (w := w) base t o.type e i size ht hi v n xs hown
    unfold Oper.wp execOp
    simp only [ho, resolve, invoke, builtin, Sem.run_bind, Sem.run_pure, Result.andThen_ok, List.map_toArray, List.map_cons, List.map_nil, hs, hx, hr]
    exact hK _ _ (h v w (by simpa using hown) ⟨rfl, rfl, rfl, Nat.le_refl _, fun i _ _ => rfl⟩ (by simp))
end Go.Proofs.Ytdodjjnejpdgcaa
