/- Maps with integers as keys: the walk's arms; ranges. -/
import Derived.Test.YtlpnomejpaoeaaaMaps
namespace Go.Proofs.Ytlpnomejpaoeaaa
set_option linter.unusedSimpArgs false
set_option linter.unusedVariables false
open Go.RowKit Go.ChangeMaps Go.Maps

/-- What is known of a map type: an integer's kind as keys, elements with that zero value. -/
structure MpT (P : Program) (t kt e : TypeId) (k : IntKind) (z : Value) : Prop where
  ht : P.underlying t = some (.map kt e)
  hk : P.underlying kt = some (.int k)
  hz : ∀ w, (zeroValue e).run P w = .ok z w

section
variable {P : Program} {w : World} {ops : Array Oper} {rest : List Oper} {o : Oper} {a : Act} {Q : Exit → Act → World → Prop} {t kt e : TypeId} {k : IntKind} {z : Value}

theorem wpList_mapget (hgd : o.guard = none) (m x : Operand) (ok : Bool) (ho : o.op = .lookup t m x ok) (T : MpT P t kt e k z) (b : Nat) (l : List (Int × Value)) (y : Int)
    (hm : a.eval m = .map (some b)) (h : MapIs k w b l) (hx : a.eval x = .int k y)
    (hh : wpList P ops Q rest (a.put o.dst (if ok then .tuple #[(lk l y).getD z, .bool (lk l y).isSome] else (lk l y).getD z)) w) : wpList P ops Q (o :: rest) a w := by
  refine wpList_plain hgd fun K hK => ?_
  unfold Oper.wp
  simp only [execOp, ho, hm, hx, Sem.run_bind, run_lookup_at T.ht T.hk T.hz w b l h y ok, Result.andThen_ok]
  exact hK _ _ hh
theorem wpList_mapset (hgd : o.guard = none) (m x v : Operand) (ho : o.op = .mapUpdate t m x v) (T : MpT P t kt e k z) (b : Nat) (l : List (Int × Value)) (y : Int) (u : Value)
    (hm : a.eval m = .map (some b)) (h : MapIs k w b l) (hx : a.eval x = .int k y) (hv : a.eval v = u)
    (hh : ∀ w', MapIs k w' b (put l y u) → Kp (fun i => i = b) w w' → wpList P ops Q rest (a.put o.dst undef) w') : wpList P ops Q (o :: rest) a w := by
  refine wpList_plain hgd fun K hK => ?_
  obtain ⟨w', hrun, h1, h2⟩ := run_update_at (P := P) T.ht T.hk w b l h y u
  unfold Oper.wp
  simp only [execOp, ho, hm, hx, hv, Sem.run_bind, hrun, Result.andThen_ok]
  exact hK _ _ (hh w' h1 h2)
theorem step_mapset {K : Act → World → Prop} {E : Prop} (hgd : o.guard = none) (m x v : Operand) (ho : o.op = .mapUpdate t m x v) (T : MpT P t kt e k z) (b : Nat) (l : List (Int × Value)) (y : Int) (u : Value)
    (hm : a.eval m = .map (some b)) (h : MapIs k w b l) (hx : a.eval x = .int k y) (hv : a.eval v = u)
    (hh : ∀ w', MapIs k w' b (put l y u) → Kp (fun i => i = b) w w' → K (a.put o.dst undef) w') : if Region.wanted o (yielded ops a.tmps) = true then Oper.wp P o a w K Q else E := by
  have hw : Region.wanted o (yielded ops a.tmps) = true := by simp [Region.wanted, hgd]
  rw [if_pos hw]
  obtain ⟨w', hrun, h1, h2⟩ := run_update_at (P := P) T.ht T.hk w b l h y u
  unfold Oper.wp
  simp only [execOp, ho, hm, hx, hv, Sem.run_bind, hrun, Result.andThen_ok]
  exact hh w' h1 h2
theorem wpList_mkmap (hgd : o.guard = none) (r : Option Operand) (hr : r = none) (ho : o.op = .makeMap t r) (T : MpT P t kt e k z)
    (hh : wpList P ops Q rest (a.put o.dst (.map (some w.heap.size))) (w.alloc (.map #[] 0))) : wpList P ops Q (o :: rest) a w := by
  subst hr
  refine wpList_plain hgd fun K hK => ?_
  have hrun : (Instr.makeMap t none).run P w = .ok (.map (some w.heap.size)) (w.alloc (.map #[] 0)) := run_makeMap t w
  unfold Oper.wp
  simp only [execOp, ho, Option.map_none, Sem.run_bind, hrun, Result.andThen_ok]
  exact hK _ _ hh

/-- An iterator over map b: what is still to come; what has just come. -/
structure IterFit (k : IntKind) (es : Array MapEntry) (clock since : Nat) (seen : Array Nat) (l todo : List (Int × Value)) : Prop where
  fit : MapFit k es clock l
  old : ∀ e ∈ es.toList, e.born < since
  le : since ≤ clock
  todo : (leftOf es seen).toList.map (fun e => (e.key, e.val)) = keyed k todo
def Iter (k : IntKind) (w : World) (r b : Nat) (l todo : List (Int × Value)) : Prop :=
  ∃ es clock since seen, w.heap[b]? = some (.map es clock) ∧ w.heap[r]? = some (.mapIter (some b) since seen clock) ∧ IterFit k es clock since seen l todo
def IterCur (k : IntKind) (w : World) (r b : Nat) (l todo : List (Int × Value)) (p : Int × Value) : Prop :=
  ∃ (es : Array MapEntry) (clock since : Nat) (seen : Array Nat) (e : MapEntry), w.heap[b]? = some (.map es clock) ∧ w.heap[r]? = some (.mapIter (some b) since (seen.push e.born) clock) ∧ IterFit k es clock since (seen.push e.born) l todo ∧ e ∈ es.toList ∧ e.key = .int k p.1 ∧ e.val = p.2
theorem IterCur.iter {w : World} {r b : Nat} {l todo : List (Int × Value)} {p : Int × Value} (h : IterCur k w r b l todo p) : Iter k w r b l todo :=
  let ⟨es, c, s, sn, _, h1, h2, h3, _⟩ := h; ⟨es, c, s, _, h1, h2, h3⟩
theorem Iter.map {w : World} {r b : Nat} {l todo : List (Int × Value)} (h : Iter k w r b l todo) : MapIs k w b l := let ⟨es, c, _, _, h1, _, h3⟩ := h; ⟨es, c, h1, h3.fit⟩
theorem Iter.kept {S : Nat → Prop} {w w' : World} {r b : Nat} {l todo : List (Int × Value)} (h : Iter k w r b l todo) (hk : Kp S w w') (hr : ¬ S r) (hb : ¬ S b) : Iter k w' r b l todo :=
  let ⟨es, c, s, sn, h1, h2, h3⟩ := h; ⟨es, c, s, sn, hk.heap h1 hb, hk.heap h2 hr, h3⟩
theorem IterCur.kept {S : Nat → Prop} {w w' : World} {r b : Nat} {l todo : List (Int × Value)} {p : Int × Value} (h : IterCur k w r b l todo p) (hk : Kp S w w') (hr : ¬ S r) (hb : ¬ S b) : IterCur k w' r b l todo p :=
  let ⟨es, c, s, sn, e, h1, h2, h3⟩ := h; ⟨es, c, s, sn, e, hk.heap h1 hb, hk.heap h2 hr, h3⟩
theorem Iter.ne {w : World} {r b : Nat} {l todo : List (Int × Value)} (h : Iter k w r b l todo) : ¬ r = b := by
  obtain ⟨es, c, s, sn, h1, h2, _⟩ := h
  intro e; subst e; rw [h1] at h2; cases h2
theorem Iter.lt {w : World} {r b : Nat} {l todo : List (Int × Value)} (h : Iter k w r b l todo) : r < w.heap.size ∧ b < w.heap.size := let ⟨_, _, _, _, h1, h2, _⟩ := h; ⟨lt_of_block h2, lt_of_block h1⟩

theorem leftOf_none (es : Array MapEntry) : leftOf es #[] = es := by simp [leftOf]

/-- 'range m'. -/
theorem run_range_at (T : MpT P t kt e k z) (w : World) (b : Nat) (l : List (Int × Value)) (h : MapIs k w b l) :
    ∃ w', (Instr.range t (.map (some b))).run P w = .ok (.pointer (some ⟨w.heap.size, 0, none⟩)) w' ∧ Iter k w' w.heap.size b l l ∧ Below w.heap.size w w' := by
  obtain ⟨es, clock, hb, hf⟩ := h
  refine ⟨w.alloc (.mapIter (some b) clock #[] clock), ?_, ⟨es, clock, clock, #[], alloc_old hb, alloc_new _ _, hf, hf.born, Nat.le_refl _, ?_⟩, below_alloc _ _⟩
  · simp only [Instr.range, Sem.run_bind, run_underlying T.ht, Result.andThen_ok, getObj, Sem.run, hb, newObj]
    rfl
  · rw [leftOf_none]; exact hf.eq
theorem wpList_range (hgd : o.guard = none) (m : Operand) (ho : o.op = .range t m) (T : MpT P t kt e k z) (b : Nat) (l : List (Int × Value)) (hm : a.eval m = .map (some b)) (h : MapIs k w b l)
    (hh : ∀ w', Iter k w' w.heap.size b l l → Below w.heap.size w w' → wpList P ops Q rest (a.put o.dst (.pointer (some ⟨w.heap.size, 0, none⟩))) w') : wpList P ops Q (o :: rest) a w := by
  refine wpList_plain hgd fun K hK => ?_
  obtain ⟨w', hrun, h1, h2⟩ := run_range_at T w b l h
  unfold Oper.wp
  simp only [execOp, ho, hm, Sem.run_bind, hrun, Result.andThen_ok]
  exact hK _ _ (hh w' h1 h2)

theorem born_inj {es : List MapEntry} (hn : (es.map (·.born)).Nodup) {x y : MapEntry} (hx : x ∈ es) (hy : y ∈ es) (h : x.born = y.born) : x = y := by
  induction es with
  | nil => cases hx
  | cons a es ih =>
    simp only [List.map_cons, List.nodup_cons] at hn
    rcases List.mem_cons.1 hx with rfl | hx' <;> rcases List.mem_cons.1 hy with rfl | hy'
    · rfl
    · exact (hn.1 (by rw [h]; exact List.mem_map_of_mem hy')).elim
    · exact (hn.1 (by rw [← h]; exact List.mem_map_of_mem hx')).elim
    · exact ih hn.2 hx' hy'

theorem keyed_split {L1 L2 : List MapEntry} {x : MapEntry} {todo : List (Int × Value)} (h : (L1 ++ x :: L2).map (fun e => (e.key, e.val)) = keyed k todo) :
    ∃ t1 p t2, todo = t1 ++ p :: t2 ∧ L1.map (fun e => (e.key, e.val)) = keyed k t1 ∧ L2.map (fun e => (e.key, e.val)) = keyed k t2 ∧ x.key = .int k p.1 ∧ x.val = p.2 := by
  induction L1 generalizing todo with
  | nil =>
    cases todo with
    | nil => simp [keyed] at h
    | cons p t2 =>
      simp only [List.nil_append, List.map_cons, keyed, List.cons.injEq, Prod.mk.injEq] at h
      exact ⟨[], p, t2, rfl, rfl, h.2, h.1.1, h.1.2⟩
  | cons y L1 ih =>
    cases todo with
    | nil => simp [keyed] at h
    | cons q todo =>
      simp only [List.cons_append, List.map_cons, keyed, List.cons.injEq] at h
      obtain ⟨t1, p, t2, rfl, h1, h2, h3, h4⟩ := ih (todo := todo) h.2
      exact ⟨q :: t1, p, t2, rfl, by simp [keyed, h.1]; exact h1, h2, h3, h4⟩

/-- 'next': all has come, or one that is still to come does. -/
theorem run_next_iter (ty : TypeId) (w : World) (r b : Nat) (l todo : List (Int × Value)) (h : Iter k w r b l todo) :
    (todo = [] ∧ (Instr.next (.pointer (some ⟨r, 0, none⟩)) false ty).run P w = .ok (.tuple #[.bool false]) w) ∨
    ∃ t1 p t2 w', todo = t1 ++ p :: t2 ∧ (Instr.next (.pointer (some ⟨r, 0, none⟩)) false ty).run P w = .ok (.tuple #[.bool true, .int k p.1, p.2]) w' ∧ IterCur k w' r b l (t1 ++ t2) p ∧ Kp (fun i => i = r) w w' := by
  have hne := h.ne
  obtain ⟨es, clock, since, seen, hb, hr, hf⟩ := h
  rcases run_next_at (P := P) w ty r b since clock seen es clock hr hb hf.old hf.le with ⟨h0, hrun⟩ | ⟨x, hx, w1, hw1, hrun⟩
  · left
    refine ⟨?_, hrun⟩
    have := congrArg List.length hf.todo
    simp only [List.length_map, Array.length_toList, h0, keyed] at this
    exact List.eq_nil_of_length_eq_zero this.symm
  · right
    obtain ⟨L1, L2, hL⟩ := List.append_of_mem hx
    have htodo := hf.todo
    rw [hL] at htodo
    obtain ⟨t1, p, t2, rfl, h1, h2, h3, h4⟩ := keyed_split htodo
    have hxe : x ∈ es.toList := by
      have : x ∈ (leftOf es seen).toList := hx
      simp only [leftOf, Array.toList_filter, List.mem_filter] at this
      exact this.1
    have hr1 : w1.heap[r]? = some (.mapIter (some b) since seen clock) := by rcases hw1 with rfl | rfl <;> exact hr
    have hb1 : w1.heap[b]? = some (.map es clock) := by rcases hw1 with rfl | rfl <;> exact hb
    have hk1 : Kp (fun i => i = r) w w1 := by
      rcases hw1 with rfl | rfl
      · exact Kp.refl _ _
      · exact (Kp.refl _ _).drew
    have hleft : (leftOf es (seen.push x.born)).toList = L1 ++ L2 := by
      have e1 : (leftOf es (seen.push x.born)).toList = (leftOf es seen).toList.filter (fun y => !(y.born == x.born)) := by
        simp only [leftOf, Array.toList_filter, List.filter_filter]
        congr 1
        funext y
        rw [Array.contains_push, Bool.not_or, Bool.and_comm]
      rw [e1, hL]
      have hnd : ((leftOf es seen).toList.map (·.born)).Nodup := by
        have : ((leftOf es seen).toList.map (·.born)).Sublist (es.toList.map (·.born)) := by
          simp only [leftOf, Array.toList_filter]; exact List.filter_sublist.map _
        exact this.nodup hf.fit.borns
      rw [hL, List.map_append, List.map_cons, List.nodup_append, List.nodup_cons] at hnd
      obtain ⟨_, ⟨hn2, _⟩, hn3⟩ := hnd
      rw [List.filter_append, List.filter_cons]
      simp only [beq_self_eq_true, Bool.not_true, Bool.false_eq_true, if_false]
      rw [List.filter_eq_self.2, List.filter_eq_self.2]
      · intro y hy
        simp only [Bool.not_eq_true', beq_eq_false_iff_ne]
        intro e; exact hn2 (List.mem_map.2 ⟨y, hy, e⟩)
      · intro y hy
        simp only [Bool.not_eq_true', beq_eq_false_iff_ne]
        exact hn3 y.born (List.mem_map.2 ⟨y, hy, rfl⟩) x.born (by simp)
    refine ⟨t1, p, t2, _, rfl, by rw [hrun, h3, h4], ⟨es, clock, since, seen, x, ?_, setBlock_at hr1, ⟨hf.fit, hf.old, hf.le, ?_⟩, hxe, h3, h4⟩, hk1.trans (setBlock_kp hr1)⟩
    · exact (setBlock_kp hr1).heap hb1 (fun e => hne e.symm)
    · rw [hleft, List.map_append, h1, h2]; simp [keyed]

theorem wpList_next_nil (hgd : o.guard = none) (it : Operand) (ho : o.op = .next it false) (r b : Nat) (l : List (Int × Value)) (hit : a.eval it = .pointer (some ⟨r, 0, none⟩)) (h : Iter k w r b l [])
    (hh : wpList P ops Q rest (a.put o.dst (.tuple #[.bool false])) w) : wpList P ops Q (o :: rest) a w := by
  refine wpList_plain hgd fun K hK => ?_
  rcases run_next_iter (P := P) o.type w r b l [] h with ⟨_, hrun⟩ | ⟨t1, p, t2, w', he, _⟩
  · unfold Oper.wp
    simp only [execOp, ho, hit, Sem.run_bind, hrun, Result.andThen_ok]
    exact hK _ _ hh
  · simp at he
theorem wpList_next_some (hgd : o.guard = none) (it : Operand) (ho : o.op = .next it false) (r b : Nat) (l todo : List (Int × Value)) (hit : a.eval it = .pointer (some ⟨r, 0, none⟩)) (h : Iter k w r b l todo) (hne : todo ≠ [])
    (hh : ∀ t1 p t2 w', todo = t1 ++ p :: t2 → IterCur k w' r b l (t1 ++ t2) p → Kp (fun i => i = r) w w' → wpList P ops Q rest (a.put o.dst (.tuple #[.bool true, .int k p.1, p.2])) w') : wpList P ops Q (o :: rest) a w := by
  refine wpList_plain hgd fun K hK => ?_
  rcases run_next_iter (P := P) o.type w r b l todo h with ⟨he, _⟩ | ⟨t1, p, t2, w', he, hrun, h1, h2⟩
  · exact absurd he hne
  · unfold Oper.wp
    simp only [execOp, ho, hit, Sem.run_bind, hrun, Result.andThen_ok]
    exact hK _ _ (hh t1 p t2 w' he h1 h2)
theorem wpList_entry (hgd : o.guard = none) (it : Operand) (ho : o.op = .entry it) (r b : Nat) (l todo : List (Int × Value)) (p : Int × Value) (hit : a.eval it = .pointer (some ⟨r, 0, none⟩)) (h : IterCur k w r b l todo p)
    (hh : wpList P ops Q rest (a.put o.dst (.tuple #[.int k p.1, p.2])) w) : wpList P ops Q (o :: rest) a w := by
  refine wpList_plain hgd fun K hK => ?_
  obtain ⟨es, clock, since, seen, e, hb, hr, hf, he, h1, h2⟩ := h
  have hrun := run_entry_at (P := P) w r b since seen es clock e hr hb he hf.fit.borns
  unfold Oper.wp
  simp only [execOp, ho, hit, Sem.run_bind, hrun, Result.andThen_ok, h1, h2]
  exact hK _ _ hh

theorem del_idx {l : List (Int × Value)} {x : Int} {j : Nat} (hn : (l.map Prod.fst).Nodup) (h : l.findIdx? (fun p => p.1 == x) = some j) : del l x = l.eraseIdx j := by
  induction l generalizing j with
  | nil => simp at h
  | cons p l ih =>
    simp only [List.map_cons, List.nodup_cons] at hn
    rw [List.findIdx?_cons] at h
    by_cases hp : (p.1 == x) = true
    · simp only [hp, if_true, Option.some.injEq] at h
      subst h
      simp only [del, List.filter_cons, hp, Bool.not_true, Bool.false_eq_true, if_false, List.eraseIdx_zero, List.tail_cons]
      rw [List.filter_eq_self]
      intro q hq
      simp only [Bool.not_eq_true', beq_eq_false_iff_ne]
      intro e
      have hpx : p.1 = x := by simpa using hp
      exact hn.1 (by rw [hpx, ← e]; exact List.mem_map_of_mem hq)
    · simp only [Bool.not_eq_true] at hp
      simp only [hp, Bool.false_eq_true, if_false, Option.map_eq_some_iff] at h
      obtain ⟨i, hi, rfl⟩ := h
      have := ih hn.2 hi
      simp only [del, List.filter_cons, hp, Bool.not_false, if_true, List.eraseIdx_cons_succ] at this ⊢
      rw [this]

theorem filter_erase {L : List MapEntry} {j : Nat} {f : MapEntry → Bool} (hj : j < L.length) (h : f L[j] = false) : (L.eraseIdx j).filter f = L.filter f := by
  induction L generalizing j with
  | nil => simp at hj
  | cons x L ih =>
    cases j with
    | zero => simp only [List.getElem_cons_zero] at h; simp [List.filter_cons, h]
    | succ j =>
      simp only [List.getElem_cons_succ] at h
      simp only [List.eraseIdx_cons_succ, List.filter_cons]
      rw [ih (by simpa using hj) h]

/-- delete of the entry that has just come. -/
theorem run_delete_cur (T : MpT P t kt e k z) (w : World) (r b : Nat) (l todo : List (Int × Value)) (p : Int × Value) (h : IterCur k w r b l todo p) (ty : TypeId) :
    ∃ w', (Builtin.delete_ #[t, kt] ty #[.map (some b), .int k p.1]).run P w = .ok (.tuple #[]) w' ∧ Iter k w' r b (del l p.1) todo ∧ Kp (fun i => i = b) w w' := by
  have hne := h.iter.ne
  obtain ⟨es, clock, since, seen, e, hb, hr, hf, he, h1, h2⟩ := h
  have hfk := run_findKey_at (P := P) T.hk w p.1 es.toList l hf.fit.eq
  have hck := run_checkKey_int (P := P) T.hk w es.isEmpty p.1
  have hset : ∀ o', (setObj b o').run P w = .ok () (setBlock w b o') := fun o' => by simp [setObj, Sem.run, hb, setBlock]
  have hs := content_length hf.fit
  cases hq : l.findIdx? (fun q => q.1 == p.1) with
  | none =>
    exfalso
    obtain ⟨i, hi, hie⟩ := List.getElem_of_mem he
    have hil : i < l.length := by simpa [← hs] using hi
    obtain ⟨hi', hk', _⟩ := content_at hf.fit i hil
    have : l[i].1 = p.1 := by
      have h3 : es[i].key = .int k p.1 := by rw [← h1, ← hie]; simp
      rw [hk'] at h3
      simpa using h3
    rw [List.findIdx?_eq_none_iff] at hq
    have := hq l[i] (List.getElem_mem hil)
    simp_all
  | some j =>
    obtain ⟨hj, hx⟩ := idx_some hq
    obtain ⟨hje, hkey, hval⟩ := content_at hf.fit j hj
    rw [hq] at hfk
    simp only [Option.bind_some, List.getElem?_eq_getElem hj, Option.map_some] at hfk
    have herase : (es.eraseIdxIfInBounds j).toList = es.toList.eraseIdx j := by simp [Array.eraseIdxIfInBounds, hje]
    -- the entry found is the one that has come
    have hej : es[j] = e := by
      obtain ⟨i, hi, hie⟩ := List.getElem_of_mem he
      have hil : i < l.length := by simpa [← hs] using hi
      obtain ⟨hi', hk', _⟩ := content_at hf.fit i hil
      have h3 : es[i].key = .int k p.1 := by rw [← h1, ← hie]; simp
      rw [hk'] at h3
      have h4 : l[i].1 = l[j].1 := by rw [hx]; simpa using h3
      have h5 := key_unique hf.fit.nodup hil hj h4
      subst h5
      rw [← hie]; simp
    have hcont : content (es.eraseIdxIfInBounds j) = keyed k (del l p.1) := by
      rw [del_idx hf.fit.nodup hq]
      unfold content keyed
      rw [herase, map_eraseIdx, map_eraseIdx]
      have := hf.fit.eq
      unfold content keyed at this
      rw [this]
    refine ⟨setBlock w b (.map (es.eraseIdxIfInBounds j) clock), ?_, ⟨_, clock, since, _, setBlock_at hb, (setBlock_kp hb).heap hr hne, ⟨⟨hcont, ?_, ?_, ?_⟩, ?_, hf.le, ?_⟩⟩, setBlock_kp hb⟩
    · simp [Builtin.delete_, run_underlying T.ht, getObj, Sem.run, hb, hck, hfk, hset]
    · exact (List.filter_sublist.map _).nodup hf.fit.nodup
    · intro e' he'; rw [herase] at he'; exact hf.fit.born e' (List.mem_of_mem_eraseIdx he')
    · rw [herase]; exact ((List.eraseIdx_sublist _ _).map _).nodup hf.fit.borns
    · intro e' he'; rw [herase] at he'; exact hf.old e' (List.mem_of_mem_eraseIdx he')
    · have hh := hf.todo
      have : (leftOf (es.eraseIdxIfInBounds j) (seen.push e.born)).toList = (leftOf es (seen.push e.born)).toList := by
        simp only [leftOf, Array.toList_filter]
        rw [herase]
        exact filter_erase (by simpa using hje) (by simp [hej])
      rw [this]; exact hh
theorem wpList_delete_cur (hgd : o.guard = none) (m x : Operand) (ho : o.op = .call { callee := .builtin .delete, args := #[m, x], argTypes := #[t, kt] }) (T : MpT P t kt e k z) (r b : Nat) (l todo : List (Int × Value)) (p : Int × Value)
    (hm : a.eval m = .map (some b)) (hx : a.eval x = .int k p.1) (h : IterCur k w r b l todo p)
    (hh : ∀ w', Iter k w' r b (del l p.1) todo → Kp (fun i => i = b) w w' → wpList P ops Q rest (a.put o.dst (.tuple #[])) w') : wpList P ops Q (o :: rest) a w := by
  refine wpList_plain hgd fun K hK => ?_
  obtain ⟨w', hrun, h1, h2⟩ := run_delete_cur T w r b l todo p h o.type
  unfold Oper.wp
  simp [execOp, ho, resolve, invoke, builtin, hm, hx, hrun, Result.andThen]
  exact hK _ _ (hh w' h1 h2)
end
end Go.Proofs.Ytlpnomejpaoeaaa
