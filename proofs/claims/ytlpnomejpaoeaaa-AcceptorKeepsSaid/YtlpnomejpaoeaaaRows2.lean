/- Whole structs loaded out of, and stored into, blocks that are known whole. -/
import Derived.Test.YtlpnomejpaoeaaaOwn2
import Derived.Laws.Rows
namespace Go.Proofs.Ytlpnomejpaoeaaa
set_option linter.unusedSimpArgs false
set_option linter.unusedVariables false
open Go.RowKit
section
variable {P : Program}

/-- A struct type of so many cells. -/
structure StT (P : Program) (ty : TypeId) (n : Nat) : Prop where
  agg : ∀ w, (isAgg ty).run P w = .ok true w
  size : (P.info? ty).map (·.size) = some n
theorem StT.mk' {ty : TypeId} {n : Nat} {d : TypeDesc} (hu : P.underlying ty = some d) (hd : (match d with | .struct _ | .array _ _ => true | _ => false) = true) (hi : (P.info? ty).map (·.size) = some n) : StT P ty n :=
  ⟨fun w => by unfold isAgg; rw [Sem.run_bind, run_underlying hu w]; cases d <;> simp_all, hi⟩
theorem StT.sizeOf {ty : TypeId} {n : Nat} (T : StT P ty n) (w : World) : (sizeOf ty).run P w = .ok n w := by
  have := T.size
  cases hq : P.info? ty with
  | none => rw [hq] at this; cases this
  | some i =>
    rw [hq] at this
    simp only [Option.map_some, Option.some.injEq] at this
    simp [Go.sizeOf, typeInfo, hq, this]

theorem run_loadVar_mid (w : World) {ty : TypeId} {n : Nat} (T : StT P ty n) (g o : Nat) (vs : List Value) (hn : vs.length = n) (h : ∀ j v, vs[j]? = some v → w.cell? ⟨g, o + j, none⟩ = some v) :
    (loadVar ty ⟨g, o, none⟩).run P w = .ok (.agg vs.toArray) w := by
  have hl : (loadCells ⟨g, o, none⟩ vs.length).run P w = .ok vs.toArray w :=
    run_loadCells_list (P := P) w ⟨g, o, none⟩ vs (fun j v hv => by
      have hadd : (⟨g, o, none⟩ : Addr).add j = ⟨g, o + j, none⟩ := by unfold Addr.add; split <;> simp_all
      rw [hadd]; exact h j v hv)
  rw [hn] at hl
  simp [loadVar, Sem.run_bind, T.agg, T.sizeOf, hl]

/-- The cells of a block that is known whole. -/
theorem row_cells {w : World} {g : Nat} {cur : Array Value} {t : TypeId} {fr : Nat × Nat} (hg : w.heap[g]? = some (.cells cur t fr)) : ∀ j v, cur.toList[j]? = some v → w.cell? ⟨g, 0 + j, none⟩ = some v := fun j v h => by
  rw [cell_of hg, Nat.zero_add, ← Array.getElem?_toList]; exact h
theorem row_cells_at {w : World} {g : Nat} {cur : Array Value} {t : TypeId} {fr : Nat × Nat} (hg : w.heap[g]? = some (.cells cur t fr)) (o n : Nat) : ∀ j v, ((cur.toList.drop o).take n)[j]? = some v → w.cell? ⟨g, o + j, none⟩ = some v := fun j v h => by
  rw [cell_of hg, ← Array.getElem?_toList]
  rw [List.getElem?_take] at h
  split at h
  · rw [List.getElem?_drop] at h; exact h
  · cases h

/-- load of a struct. -/
theorem wpList_ld {ty : TypeId} {n : Nat} {w : World} {ops : Array Oper} {rest : List Oper} {o : Oper} {a : Act} {Q : Exit → Act → World → Prop} (hgd : o.guard = none) (x : Operand) (ho : o.op = .load ty x) (T : StT P ty n)
    (g off : Nat) (vs : List Value) (hx : a.eval x = .pointer (some ⟨g, off, none⟩)) (hn : vs.length = n) (hc : ∀ j v, vs[j]? = some v → w.cell? ⟨g, off + j, none⟩ = some v)
    (h : wpList P ops Q rest (a.put o.dst (.agg vs.toArray)) w) : wpList P ops Q (o :: rest) a w := by
  refine wpList_plain hgd fun K hK => ?_
  unfold Oper.wp execOp
  simp only [ho, hx, Instr.loadAt, Instr.sureAddr, Sem.run_bind, Sem.run_pure, Result.andThen_ok, run_loadVar_mid w T g off vs hn hc]
  exact hK _ _ h
theorem step_ld {ty : TypeId} {n : Nat} {w : World} {ops : Array Oper} {o : Oper} {a : Act} {K : Act → World → Prop} {Q : Exit → Act → World → Prop} {E : Prop} (hgd : o.guard = none) (x : Operand) (ho : o.op = .load ty x) (T : StT P ty n)
    (g off : Nat) (vs : List Value) (hx : a.eval x = .pointer (some ⟨g, off, none⟩)) (hn : vs.length = n) (hc : ∀ j v, vs[j]? = some v → w.cell? ⟨g, off + j, none⟩ = some v)
    (h : K (a.put o.dst (.agg vs.toArray)) w) : if Region.wanted o (yielded ops a.tmps) = true then Oper.wp P o a w K Q else E := by
  have hw : Region.wanted o (yielded ops a.tmps) = true := by simp [Region.wanted, hgd]
  rw [if_pos hw]
  unfold Oper.wp execOp
  simp only [ho, hx, Instr.loadAt, Instr.sureAddr, Sem.run_bind, Sem.run_pure, Result.andThen_ok, run_loadVar_mid w T g off vs hn hc]
  exact h

/-- A block's row with some cells written over. -/
def over (cur : Array Value) (off : Nat) (vs : List Value) : Array Value := (cur.toList.take off ++ vs ++ cur.toList.drop (off + vs.length)).toArray
theorem over_all (cur : Array Value) (vs : List Value) (h : vs.length = cur.size) : over cur 0 vs = vs.toArray := by
  unfold over
  rw [List.take_zero, List.nil_append, Nat.zero_add, List.drop_of_length_le (by simp [h]), List.append_nil]

theorem run_storeVar_mid (w : World) {ty : TypeId} {n : Nat} (T : StT P ty n) (g o : Nat) (vs : Array Value) (hn : vs.size = n) (h1 : ∀ v ∈ vs.toList, v.oneCell' = true) (cur : Array Value) (t : TypeId) (hg : w.heap[g]? = some (.cells cur t (0, 0))) (hfit : o + n ≤ cur.size) :
    (storeVar ty ⟨g, o, none⟩ (.agg vs)).run P w = .ok () (w.setRow g (over cur o vs.toList)) := by
  have hst := run_storeCells_own (P := P) g o t (0, 0) vs.toList 0 cur w hg (.inl rfl) (by simpa [hn] using hfit) h1
  simp only [Nat.add_zero] at hst
  have hc : (Value.agg vs).cells = vs := rfl
  simp only [storeVar, Sem.run_bind, T.sizeOf, Result.andThen_ok, hc, hn, ne_eq, not_true, if_false]
  exact hst

theorem wpList_st {ty : TypeId} {n : Nat} {w : World} {ops : Array Oper} {rest : List Oper} {o : Oper} {a : Act} {Q : Exit → Act → World → Prop} (hgd : o.guard = none) (p x : Operand) (ho : o.op = .store ty p x) (T : StT P ty n)
    (g off : Nat) (vs : Array Value) (hp : a.eval p = .pointer (some ⟨g, off, none⟩)) (hx : a.eval x = .agg vs) (hn : vs.size = n) (h1 : ∀ v ∈ vs.toList, v.oneCell' = true)
    (cur : Array Value) (t : TypeId) (hg : w.heap[g]? = some (.cells cur t (0, 0))) (hfit : off + n ≤ cur.size)
    (h : ∀ w', w'.heap[g]? = some (.cells (over cur off vs.toList) t (0, 0)) → Kp (fun k => k = g) w w' → wpList P ops Q rest (a.put o.dst undef) w') : wpList P ops Q (o :: rest) a w := by
  refine wpList_plain hgd fun K hK => ?_
  unfold Oper.wp execOp
  simp only [ho, hp, hx, Instr.storeAt, Instr.sureAddr, Sem.run_bind, Sem.run_pure, Result.andThen_ok, run_storeVar_mid w T g off vs hn h1 cur t hg hfit]
  exact hK _ _ (h _ (setRow_heap _ _ _ _ _ _ hg) (setRow_kp _ _ _))
end
end Go.Proofs.Ytlpnomejpaoeaaa
