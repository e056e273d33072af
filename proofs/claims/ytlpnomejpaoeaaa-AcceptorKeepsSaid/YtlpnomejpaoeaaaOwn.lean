/- Slices that the code owns or only reads, and append, copy, conversions over them. -/
import Derived.Test.YtlpnomejpaoeaaaBase
import Derived.Laws.CopyRow
import Derived.Lib.ConvBytes
namespace Go.Proofs.Ytlpnomejpaoeaaa
set_option linter.unusedSimpArgs false
set_option linter.unusedVariables false
open Go.RowKit

/-- A slice that is only read: its cells. -/
def Rd (w : World) (size : Nat) (v : Value) (n : Nat) (xs : List Value) : Prop :=
  xs.length = n * size ∧ ((v = .slice none 0 0 ∧ n = 0) ∨
    ∃ g o cap, v = .slice (some ⟨g, o, none⟩) n cap ∧ n ≤ cap ∧ cap ≤ maxLen ∧ g < w.heap.size ∧ ∀ j u, xs[j]? = some u → w.cell? ⟨g, o + j, none⟩ = some u)

/-- A slice whose row is the code's own. -/
def Own (w : World) (e : TypeId) (size : Nat) (v : Value) (n : Nat) (xs : List Value) : Prop :=
  xs.length = n * size ∧ ((v = .slice none 0 0 ∧ n = 0) ∨
    ∃ g o cap cur fr, v = .slice (some ⟨g, o, none⟩) n cap ∧ w.heap[g]? = some (.cells cur e fr) ∧ (fr = (0, 0) ∨ cur.size ≤ fr.1) ∧
      n ≤ cap ∧ cap ≤ maxLen ∧ cur.size = o + cap * size ∧ (cur.toList.drop o).take (n * size) = xs)

theorem Own.nil (w : World) (e : TypeId) (size : Nat) : Own w e size (.slice none 0 0) 0 [] := ⟨by simp, .inl ⟨rfl, rfl⟩⟩
theorem Rd.nil (w : World) (size : Nat) : Rd w size (.slice none 0 0) 0 [] := ⟨by simp, .inl ⟨rfl, rfl⟩⟩

theorem Own.rd {w : World} {e : TypeId} {size : Nat} {v : Value} {n : Nat} {xs : List Value} (h : Own w e size v n xs) : Rd w size v n xs := by
  obtain ⟨hl, h⟩ := h
  refine ⟨hl, ?_⟩
  rcases h with h | ⟨g, o, cap, cur, fr, rfl, hg, hfr, hn, hc, hs, ht⟩
  · exact .inl h
  · refine .inr ⟨g, o, cap, rfl, hn, hc, lt_of_block hg, fun j u hj => ?_⟩
    rw [cell_of hg, ← Array.getElem?_toList]
    rw [← ht] at hj
    rw [List.getElem?_take] at hj
    split at hj
    · rw [List.getElem?_drop] at hj; exact hj
    · cases hj

/-- The shape of a slice that is read; where it has an element, its place. -/
theorem Rd.form {w : World} {size : Nat} {v : Value} {n : Nat} {xs : List Value} (h : Rd w size v n xs) : ∃ p cap, v = .slice p n cap := by
  rcases h.2 with ⟨rfl, rfl⟩ | ⟨g, o, cap, rfl, _⟩
  · exact ⟨_, _, rfl⟩
  · exact ⟨_, _, rfl⟩
theorem Rd.place {w : World} {size : Nat} {p : Option Addr} {n m cap : Nat} {xs : List Value} (h : Rd w size (.slice p n cap) m xs) (hn : 0 < n) :
    ∃ g o, p = some ⟨g, o, none⟩ ∧ n ≤ cap ∧ cap ≤ maxLen ∧ g < w.heap.size ∧ ∀ j u, xs[j]? = some u → w.cell? ⟨g, o + j, none⟩ = some u := by
  rcases h.2 with ⟨h, _⟩ | ⟨g, o, cap', h, h1, h2, h3, h4⟩
  · cases h; omega
  · cases h; exact ⟨g, o, rfl, h1, h2, h3, h4⟩
theorem Own.form {w : World} {e : TypeId} {size : Nat} {v : Value} {n : Nat} {xs : List Value} (h : Own w e size v n xs) : ∃ p cap, v = .slice p n cap := h.rd.form

theorem Own.lt {w : World} {e : TypeId} {size : Nat} {v : Value} {n : Nat} {xs : List Value} (h : Own w e size v n xs) {k : Nat} (hk : v.ownBlock = some k) : k < w.heap.size := by
  rcases h.2 with ⟨rfl, _⟩ | ⟨g, o, cap, cur, fr, rfl, hg, _⟩
  · cases hk
  · cases hk; exact lt_of_block hg
theorem Rd.lt {w : World} {size : Nat} {v : Value} {n : Nat} {xs : List Value} (h : Rd w size v n xs) {k : Nat} (hk : v.ownBlock = some k) : k < w.heap.size := by
  rcases h.2 with ⟨rfl, _⟩ | ⟨g, o, cap, rfl, _, _, hg, _⟩
  · cases hk
  · cases hk; exact hg

theorem Own.kept {S : Nat → Prop} {w w' : World} {e : TypeId} {size : Nat} {v : Value} {n : Nat} {xs : List Value} (h : Own w e size v n xs) (hk : Kp S w w') (hS : ∀ k, v.ownBlock = some k → ¬ S k) : Own w' e size v n xs := by
  obtain ⟨hl, h⟩ := h
  refine ⟨hl, ?_⟩
  rcases h with h | ⟨g, o, cap, cur, fr, rfl, hg, r⟩
  · exact .inl h
  · exact .inr ⟨g, o, cap, cur, fr, rfl, hk.heap hg (hS g rfl), r⟩
theorem Rd.kept {S : Nat → Prop} {w w' : World} {size : Nat} {v : Value} {n : Nat} {xs : List Value} (h : Rd w size v n xs) (hk : Kp S w w') (hS : ∀ k, v.ownBlock = some k → ¬ S k) : Rd w' size v n xs := by
  obtain ⟨hl, h⟩ := h
  refine ⟨hl, ?_⟩
  rcases h with h | ⟨g, o, cap, rfl, hn, hc, hg, r⟩
  · exact .inl h
  · exact .inr ⟨g, o, cap, rfl, hn, hc, Nat.lt_of_lt_of_le hg hk.size, fun j u hj => (hk.cell (p := ⟨g, o + j, none⟩) hg (hS g rfl)).trans (r j u hj)⟩
theorem Rd.below {w w' : World} {size : Nat} {v : Value} {n : Nat} {xs : List Value} (h : Rd w size v n xs) (hb : Below w.heap.size w w') : Rd w' size v n xs :=
  h.kept (S := fun _ => False) (Kp.of_below hb) (fun _ _ f => f)
theorem Own.below {w w' : World} {e : TypeId} {size : Nat} {v : Value} {n : Nat} {xs : List Value} (h : Own w e size v n xs) (hb : Below w.heap.size w w') : Own w' e size v n xs :=
  h.kept (S := fun _ => False) (Kp.of_below hb) (fun _ _ f => f)

/-- A fresh block, known whole. -/
theorem Own.made {w : World} {g : Nat} {cur : Array Value} {e : TypeId} {size n cap : Nat} (hg : w.heap[g]? = some (.cells cur e (0, 0))) (hn : n ≤ cap) (hc : cap ≤ maxLen) (hs : cur.size = cap * size) :
    Own w e size (.slice (some ⟨g, 0, none⟩) n cap) n (cur.toList.take (n * size)) :=
  ⟨by rw [List.length_take]; simp only [Array.length_toList, hs]; exact Nat.min_eq_left (Nat.mul_le_mul_right _ hn),
    .inr ⟨g, 0, cap, cur, (0, 0), rfl, hg, .inl rfl, hn, hc, by omega, by simp⟩⟩

/-- A block that was just made with these cells, read whole. -/
theorem Rd.lit (w : World) (vs : Array Value) (e : TypeId) (size n g : Nat) (hg : g = w.heap.size) (h : vs.size = n * size) (hn : n ≤ maxLen) : Rd (w.alloc (.cells vs e)) size (.slice (some ⟨g, 0, none⟩) n n) n vs.toList := by
  subst hg
  refine ⟨by simpa using h, .inr ⟨_, 0, n, rfl, Nat.le_refl _, hn, by simp, fun j u hj => ?_⟩⟩
  rw [cell_of (alloc_new w _), Nat.zero_add, ← Array.getElem?_toList]
  exact hj

section
variable {P : Program}

/-- Several stores into a row whose mark, if it has one, lies behind it. -/
theorem run_storeCells_own (g o : Nat) (t : TypeId) (fr : Nat × Nat) : ∀ (vs : List Value) (i : Nat) (cur : Array Value) (w : World), w.heap[g]? = some (.cells cur t fr) → (fr = (0, 0) ∨ cur.size ≤ fr.1) → o + i + vs.length ≤ cur.size → (∀ v ∈ vs, v.oneCell' = true) →
    (storeCells ⟨g, o, none⟩ vs i).run P w = .ok () (w.setRow g (cur.toList.take (o + i) ++ vs ++ cur.toList.drop (o + i + vs.length)).toArray)
  | [], i, cur, w, hg, _, _, _ => by
    simp only [storeCells, List.append_nil, List.length_nil, Nat.add_zero, List.take_append_drop, Array.toArray_toList]
    rw [setRow_self w g cur t fr hg]
    rfl
  | v :: rest, i, cur, w, hg, hfr, hl, h1 => by
    have hi : o + i < cur.size := by simp at hl; omega
    have hadd : (⟨g, o, none⟩ : Addr).add i = ⟨g, o + i, none⟩ := by unfold Addr.add; split <;> simp_all
    have hcell : w.cell? ⟨g, o + i, none⟩ = some cur[o + i] := by simp [World.cell?, hg, hi]
    have hfro : w.frozen? ⟨g, o + i, none⟩ = false := by
      rcases hfr with rfl | hfr
      · simp [World.frozen?, hg]
      · obtain ⟨a, b⟩ := fr
        simp only [World.frozen?, hg]
        simp only [Bool.and_eq_false_iff, decide_eq_false_iff_not]
        left
        simp at hfr
        omega
    have hst : (store ((⟨g, o, none⟩ : Addr).add i) v).run P w = .ok () (w.setRow g (cur.setIfInBounds (o + i) v)) := by
      rw [hadd, run_store P w _ v _ (h1 v (by simp)), hcell]
      simp [hfro, setCell_eq_setRow w g (o + i) cur t fr v hg]
    have ih := run_storeCells_own g o t fr rest (i + 1) (cur.setIfInBounds (o + i) v) (w.setRow g (cur.setIfInBounds (o + i) v)) (setRow_heap w g cur _ t _ hg) (by simpa using hfr) (by simp at hl ⊢; omega) (fun x hx => h1 x (by simp [hx]))
    simp only [storeCells, Sem.run_bind, hst, Result.andThen_ok, ih, setRow_setRow]
    congr 3
    have e := list_seg_step cur.toList (o + i) v rest (by simp at hl ⊢; omega)
    simpa [Array.toList_setIfInBounds, Nat.add_assoc] using e

theorem setRow_kp (w : World) (g : Nat) (cs : Array Value) : Kp (fun k => k = g) w (w.setRow g cs) :=
  ⟨rfl, rfl, rfl, by simp, fun k _ hk => setRow_other w g k cs hk⟩

/-- What is known of a slice type: its element's type, that one's cells and bytes. -/
structure SlT (P : Program) (t e : TypeId) (size bytes : Nat) : Prop where
  ht : P.underlying t = some (.slice e)
  info : (P.info? e).map (fun i => ((i.zero.map fun z => z.cells.size), i.size, i.bytes)) = some (some size, size, bytes)
  pos : 0 < size

theorem SlT.parts {t e : TypeId} {size bytes : Nat} (h : SlT P t e size bytes) : ∃ i z, P.info? e = some i ∧ i.zero = some z ∧ z.cells.size = size ∧ i.size = size ∧ i.bytes = bytes := by
  have hh := h.info
  cases hi : P.info? e with
  | none => rw [hi] at hh; cases hh
  | some i =>
    rw [hi] at hh
    simp only [Option.map_some, Option.some.injEq, Prod.mk.injEq] at hh
    cases hz : i.zero with
    | none => rw [hz] at hh; simp at hh
    | some z =>
      rw [hz] at hh
      simp only [Option.map_some, Option.some.injEq] at hh
      exact ⟨i, z, rfl, hz, hh.1, hh.2.1, hh.2.2⟩

/-- What an append leaves. -/
structure Appended (w w' : World) (e : TypeId) (size : Nat) (v v' : Value) (n : Nat) (xs : List Value) : Prop where
  own : Own w' e size v' n xs
  kp : Kp (fun k => v.ownBlock = some k) w w'
  at_ : ∀ k, v'.ownBlock = some k → v.ownBlock = some k ∨ w.heap.size ≤ k

theorem grown_own (w : World) (e : TypeId) (size n m old : Nat) (z : Array Value) (xs ys : List Value) (hx : xs.length = n * size) (hy : ys.length = m * size) (hz : z.size = size) (h63 : n + m ≤ maxLen) :
    Own (w.drew.alloc (.cells (xs.toArray ++ ys.toArray ++ Builtin.zeroCells z (grownCap w (n + m) old e - (n + m))) e)) e size
        (.slice (some ⟨w.heap.size, 0, none⟩) (n + m) (grownCap w (n + m) old e)) (n + m) (xs ++ ys) := by
  have hge := grownCap_ge w (n + m) old e
  have hcm : grownCap w (n + m) old e ≤ maxLen := grownCap_le_maxLen w (n + m) old e h63
  have hlen : (xs ++ ys).length = (n + m) * size := by rw [List.length_append, hx, hy, Nat.add_mul]
  refine ⟨hlen, .inr ⟨w.heap.size, 0, _, _, (0, 0), rfl, heap_alloc_new w.drew _, .inl rfl, hge, hcm, ?_, ?_⟩⟩
  · simp only [Array.size_append, List.size_toArray, size_zeroCells, hz, hx, hy, ← Nat.add_mul]
    rw [Nat.zero_add]
    congr 1
    omega
  · simp only [Array.toList_append, List.append_assoc, List.drop_zero]
    rw [← List.append_assoc, ← hlen]
    exact List.take_left

theorem grown_kp (w : World) (o : Obj) (S : Nat → Prop) : Kp S w (w.drew.alloc o) := ((Kp.refl S w).drew).alloc o

theorem run_append_rd {t e : TypeId} {size bytes : Nat} (w : World) (ty : TypeId) (T : SlT P t e size bytes) (v : Value) (n : Nat) (xs : List Value) (hown : Own w e size v n xs)
    (y : Value) (m : Nat) (ys : List Value) (hrd : Rd w size y m ys) (h1 : ∀ u ∈ ys, u.oneCell' = true)
    (h63 : n + m ≤ maxLen) (hbytes : (n + m) * bytes ≤ 140737488355328) :
    ∃ v' w', (Builtin.append_ #[t, t] ty #[v, y]).run P w = .ok v' w' ∧ Appended w w' e size v v' (n + m) (xs ++ ys) := by
  obtain ⟨i, z, hi, hz, hzs, hsize, hby⟩ := T.parts
  have ht := T.ht
  have hpos := T.pos
  subst hsize
  subst hby
  have hsmall : n + m ≤ 9223372036854775807 := by simp only [maxLen] at h63; omega
  have hlen : (xs ++ ys).length = (n + m) * i.size := by rw [List.length_append, hown.1, hrd.1, Nat.add_mul]
  rcases hrd.2 with ⟨rfl, rfl⟩ | ⟨ga, oa, c, rfl, hmc, hcc, hgl, hnews⟩
  · -- nothing is appended
    have hys : ys = [] := List.eq_nil_of_length_eq_zero (by simpa using hrd.1)
    subst hys
    refine ⟨v, w, ?_, ⟨by simpa using hown, Kp.refl _ _, fun k hk => .inl hk⟩⟩
    rcases hown.2 with ⟨rfl, rfl⟩ | ⟨g, o, cap, cur, fr, rfl, hg, hfr, hnc, hcm, hcs, htake⟩
    · simp [Builtin.append_, run_underlying ht, sizeOf, typeInfo, hi, Builtin.lenOf, Builtin.firstCells]
    · simp [Builtin.append_, run_underlying ht, sizeOf, typeInfo, hi, Builtin.lenOf, Builtin.firstCells, storeCells, hnc]
  · have hl := hrd.1
    have hnews' : ∀ j u, ys[j]? = some u → w.cell? ((⟨ga, oa, none⟩ : Addr).add j) = some u := fun j u hj => by
      have := hnews j u hj
      unfold Addr.add
      split
      · rename_i h0; subst h0; simpa using this
      · exact this
    rcases hown.2 with ⟨rfl, rfl⟩ | ⟨g, o, cap, cur, fr, rfl, hg, hfr, hnc, hcm, hcs, htake⟩
    · have hx : xs = [] := List.eq_nil_of_length_eq_zero (by simpa using hown.1)
      subst hx
      by_cases hm : m = 0
      · subst hm
        have hn : ys = [] := List.eq_nil_of_length_eq_zero (by simpa using hl)
        subst hn
        refine ⟨.slice none 0 0, w, ?_, ⟨Own.nil w e i.size, Kp.refl _ _, fun k hk => by cases hk⟩⟩
        simp [Builtin.append_, run_underlying ht, sizeOf, typeInfo, hi, Builtin.lenOf, Builtin.firstCells, loadCells, loadCellsFrom]
      · have hr := run_append_nil (P := P) w t ty e i z ht hi hz ⟨ga, oa, none⟩ m c ys hl hnews' (by omega) (by omega) (by have hb := hbytes; simp only [Nat.zero_add] at hb; omega)
        have hgr := grown_own w e i.size 0 m 0 z.cells [] ys (by simp) hl hzs h63
        simp only [Nat.zero_add, List.nil_append, Array.empty_append] at hgr ⊢
        exact ⟨_, _, hr, ⟨hgr, grown_kp _ _ _, fun k hk => by cases hk; exact .inr (Nat.le_refl _)⟩⟩
    · by_cases hroom : n + m ≤ cap
      · have hf := run_firstCells_some (P := P) w i.size m ⟨ga, oa, none⟩ m c ys hl hnews'
        have hfit : (o + n * i.size) + 0 + ys.length ≤ cur.size := by
          rw [hl, hcs, Nat.add_zero, Nat.add_assoc, ← Nat.add_mul]; exact Nat.add_le_add_left (Nat.mul_le_mul_right _ hroom) _
        have hst := run_storeCells_own (P := P) g (o + n * i.size) e fr ys 0 cur w hg hfr hfit h1
        have hadd : (⟨g, o, none⟩ : Addr).add (n * i.size) = ⟨g, o + n * i.size, none⟩ := by unfold Addr.add; split <;> simp_all
        simp only [Nat.add_zero] at hst
        have hr : (Builtin.append_ #[t, t] ty #[.slice (some ⟨g, o, none⟩) n cap, .slice (some ⟨ga, oa, none⟩) m c]).run P w =
            .ok (.slice (some ⟨g, o, none⟩) (n + m) cap) (w.setRow g (cur.toList.take (o + n * i.size) ++ ys ++ cur.toList.drop (o + n * i.size + ys.length)).toArray) := by
          simp [Builtin.append_, run_underlying ht, sizeOf, typeInfo, hi, Builtin.lenOf, hroom, hf, hadd, hst]
        refine ⟨_, _, hr, ⟨⟨hlen, .inr ⟨g, o, cap, _, fr, rfl, setRow_heap w g cur _ e _ hg, ?_, hroom, hcm, ?_, ?_⟩⟩, (setRow_kp w g _).mono (fun k _ hk => by rw [hk]; rfl), fun k hk => .inl hk⟩⟩
        · rcases hfr with rfl | hfr
          · exact .inl rfl
          · right
            simp only [List.size_toArray, List.length_append, List.length_take, List.length_drop, Array.length_toList]
            omega
        · simp only [List.size_toArray, List.length_append, List.length_take, List.length_drop, Array.length_toList]
          omega
        · have hxl : xs.length = n * i.size := hown.1
          have e1 : (cur.toList.take (o + n * i.size)).drop o = xs := by
            rw [← htake, List.drop_take]
            congr 1
            omega
          simp only [List.append_assoc]
          rw [List.drop_append_of_le_length (by simp only [List.length_take, Array.length_toList]; omega), e1, ← List.append_assoc, ← hlen]
          exact List.take_left
      · have holds : ∀ j u, xs[j]? = some u → w.cell? ((⟨g, o, none⟩ : Addr).add j) = some u := fun j u hj => by
          rcases hown.rd.2 with ⟨h, _⟩ | ⟨g', o', c', he, _, _, _, hc'⟩
          · cases h
          · cases he
            have := hc' j u hj
            unfold Addr.add
            split
            · rename_i h0; subst h0; simpa using this
            · exact this
        have hr := run_append_grow (P := P) w t ty e i z ht hi hz ⟨g, o, none⟩ n cap xs hown.1 holds ⟨ga, oa, none⟩ m c ys hl hnews' (by omega) (by omega) (growslice_fits (by omega) hbytes)
        exact ⟨_, _, hr, ⟨grown_own w e i.size n m cap z.cells xs ys hown.1 hl hzs h63, grown_kp _ _ _, fun k hk => by cases hk; exact .inr (Nat.le_refl _)⟩⟩

/-- append of a slice, as an arm of the walk. -/
theorem wpList_app {t e : TypeId} {size bytes : Nat} {w : World} {ops : Array Oper} {rest : List Oper} {o : Oper} {a : Act} {Q : Exit → Act → World → Prop} (hgd : o.guard = none) (s x : Operand)
    (ho : o.op = .call { callee := .builtin .append, args := #[s, x], argTypes := #[t, t] }) (T : SlT P t e size bytes)
    (v : Value) (n : Nat) (xs : List Value) (hs : a.eval s = v) (hown : Own w e size v n xs)
    (y : Value) (m : Nat) (ys : List Value) (hx : a.eval x = y) (hrd : Rd w size y m ys) (h1 : ∀ u ∈ ys, u.oneCell' = true)
    (h63 : n + m ≤ maxLen) (hbytes : (n + m) * bytes ≤ 140737488355328)
    (h : ∀ v' w', Appended w w' e size v v' (n + m) (xs ++ ys) → wpList P ops Q rest (a.put o.dst v') w') : wpList P ops Q (o :: rest) a w := by
  refine wpList_plain hgd fun K hK => ?_
  obtain ⟨v', w', hrun, hap⟩ := run_append_rd w o.type T v n xs hown y m ys hrd h1 h63 hbytes
  unfold Oper.wp
  simp [execOp, ho, resolve, invoke, builtin, hs, hx, hrun, Result.andThen]
  exact hK _ _ (h v' w' hap)

/-- append of a slice, as a step of a region that draws its order. -/
theorem step_app {t e : TypeId} {size bytes : Nat} {w : World} {ops : Array Oper} {o : Oper} {a : Act} {K : Act → World → Prop} {Q : Exit → Act → World → Prop} {E : Prop} (hgd : o.guard = none) (s x : Operand)
    (ho : o.op = .call { callee := .builtin .append, args := #[s, x], argTypes := #[t, t] }) (T : SlT P t e size bytes)
    (v : Value) (n : Nat) (xs : List Value) (hs : a.eval s = v) (hown : Own w e size v n xs)
    (y : Value) (m : Nat) (ys : List Value) (hx : a.eval x = y) (hrd : Rd w size y m ys) (h1 : ∀ u ∈ ys, u.oneCell' = true)
    (h63 : n + m ≤ maxLen) (hbytes : (n + m) * bytes ≤ 140737488355328)
    (h : ∀ v' w', Appended w w' e size v v' (n + m) (xs ++ ys) → K (a.put o.dst v') w') : if Region.wanted o (yielded ops a.tmps) = true then Oper.wp P o a w K Q else E := by
  have hw : Region.wanted o (yielded ops a.tmps) = true := by simp [Region.wanted, hgd]
  rw [if_pos hw]
  obtain ⟨v', w', hrun, hap⟩ := run_append_rd w o.type T v n xs hown y m ys hrd h1 h63 hbytes
  unfold Oper.wp
  simp [execOp, ho, resolve, invoke, builtin, hs, hx, hrun, Result.andThen]
  exact h v' w' hap

/-- All of a slice's own memory is new. -/
def Fresh (B : Nat) (v : Value) : Prop := ∀ k, v.ownBlock = some k → B ≤ k
theorem Fresh.nil (B : Nat) : Fresh B (.slice none 0 0) := fun k h => by cases h
theorem Appended.below {B : Nat} {w w' : World} {e : TypeId} {size : Nat} {v v' : Value} {n : Nat} {xs : List Value} (h : Appended w w' e size v v' n xs) (hf : Fresh B v) (hB : B ≤ w.heap.size) : Below B w w' :=
  ⟨h.kp.os, h.kp.tape, h.kp.output, h.kp.size, fun k hk => h.kp.block k (by omega) (fun e => by have := hf k e; omega)⟩
theorem Appended.fresh {B : Nat} {w w' : World} {e : TypeId} {size : Nat} {v v' : Value} {n : Nat} {xs : List Value} (h : Appended w w' e size v v' n xs) (hf : Fresh B v) (hB : B ≤ w.heap.size) : Fresh B v' := fun k hk => by
  rcases h.at_ k hk with h | h
  · exact hf k h
  · omega

/-- Bytes as the cells hold them. -/
def byteVals (l : Bytes) : List Value := l.map fun b => .int .u8 (b.toNat : Int)
theorem byteVals_length (l : Bytes) : (byteVals l).length = l.length := by simp [byteVals]
theorem byteVals_append (l m : Bytes) : byteVals (l ++ m) = byteVals l ++ byteVals m := by simp [byteVals]
theorem byteVals_one (l : Bytes) : ∀ u ∈ byteVals l, u.oneCell' = true := by
  intro u hu
  simp only [byteVals, List.mem_map] at hu
  obtain ⟨b, _, rfl⟩ := hu
  rfl

/-- '[]byte(s)'. -/
theorem wpList_strbytes {src dst e : TypeId} {w : World} {ops : Array Oper} {rest : List Oper} {o : Oper} {a : Act} {Q : Exit → Act → World → Prop} (hgd : o.guard = none) (x : Operand)
    (ho : o.op = .convert src dst x) {u : TypeDesc} (hs : P.underlying src = some u) (hd : P.underlying dst = some (.slice e)) (he : P.underlying e = some (.int .u8))
    (l : Bytes) (hx : a.eval x = str l) (hl : l.length ≤ maxLen)
    (h : ∀ v' w', Own w' e 1 v' l.length (byteVals l) → Below w.heap.size w w' → Fresh w.heap.size v' → wpList P ops Q rest (a.put o.dst v') w') : wpList P ops Q (o :: rest) a w := by
  refine wpList_plain hgd fun K hK => ?_
  have hrun := Lib.run_convert_string_bytes (P := P) w src dst e ⟨l.toArray⟩ hs hd he
  unfold Oper.wp
  simp [execOp, ho, hx, hrun, Result.andThen]
  refine hK _ _ (h _ _ ?_ ?_ ?_)
  · refine ⟨by simp [byteVals], .inr ⟨w.heap.size, 0, _, _, _, rfl, Lib.bytesWorld_at_new w e ⟨l.toArray⟩, .inr (Nat.le_refl _), ?_, ?_, ?_, ?_⟩⟩
    · exact grownCap_ge w _ 0 e
    · exact grownCap_le_maxLen w _ 0 e hl
    · have hge := grownCap_ge w l.length 0 e
      simp only [Lib.bytesCells, Array.size_append, Array.size_map, Array.size_replicate, ByteArray.size, List.size_toArray]
      omega
    · have e1 : l.length * 1 = (byteVals l).length := by simp [byteVals]
      simp only [Lib.bytesCells, Array.toList_append, List.drop_zero, Array.toList_map, List.map_toArray, e1]
      exact List.take_left
  · exact ⟨rfl, rfl, rfl, by rw [Lib.bytesWorld_size]; omega, fun k hk => Lib.bytesWorld_at_old w e _ k hk⟩
  · intro k hk
    cases hk
    exact Nat.le_refl _

/-- 'string(b)'. -/
theorem wpList_bytesstr {src dst e : TypeId} {w : World} {ops : Array Oper} {rest : List Oper} {o : Oper} {a : Act} {Q : Exit → Act → World → Prop} (hgd : o.guard = none) (x : Operand)
    (ho : o.op = .convert src dst x) (hs : P.underlying src = some (.slice e)) (hd : P.underlying dst = some .string) (he : P.underlying e = some (.int .u8))
    (v : Value) (n : Nat) (l : Bytes) (hx : a.eval x = v) (hrd : Rd w 1 v n (byteVals l))
    (h : wpList P ops Q rest (a.put o.dst (str l)) w) : wpList P ops Q (o :: rest) a w := by
  refine wpList_plain hgd fun K hK => ?_
  have hn : l.length = n := by have := hrd.1; simpa [byteVals] using this
  have hrun : (convert src dst v).run P w = .ok (str l) w := by
    rcases hrd.2 with ⟨rfl, rfl⟩ | ⟨g, off, cap, rfl, _, _, _, hc⟩
    · have hl : l = [] := List.eq_nil_of_length_eq_zero hn
      subst hl
      exact run_convert_bytes_nil w src e hs he 0 0 dst hd
    · have := run_convert_bytes_arg w src e hs he g off n cap (l.map fun b => (b.toNat : Int)) (by simpa using hn) (fun i hi => by
        have hi' : i < l.length := by omega
        rw [hc i (.int .u8 (l[i].toNat : Int)) (by simp [byteVals, hi'])]
        simp [List.getD, hi']) dst hd
      rw [this]
      congr 2
      unfold strOfNums
      congr 2
      rw [List.map_map]
      exact List.map_id'' (fun b => by simp) l
  unfold Oper.wp
  simp [execOp, ho, hx, hrun, Result.andThen]
  exact hK _ _ h

theorem madeCells_one (z : Value) (n : Nat) : madeCells #[z] n = (List.replicate n z).toArray := by
  apply Array.ext'
  simp only [madeCells, Array.toList_map, Array.toList_range]
  rw [List.eq_replicate_iff]
  refine ⟨by simp, fun b hb => ?_⟩
  simp only [List.mem_map] at hb
  obtain ⟨i, _, rfl⟩ := hb
  simp [Nat.mod_one]

/-- 'make([]T, n)', T of one cell. -/
theorem wpList_make1 {t e : TypeId} {bytes : Nat} {w : World} {ops : Array Oper} {rest : List Oper} {o : Oper} {a : Act} {Q : Exit → Act → World → Prop} (hgd : o.guard = none) (l c : Operand)
    (ho : o.op = .makeSlice t l c) (T : SlT P t e 1 bytes) (z : Value) (hz : (P.info? e).bind (fun i => i.zero) = some z) (hz1 : z.cells = #[z])
    (n : Nat) (hl : a.eval l = .int .i64 n) (hc : a.eval c = .int .i64 n) (hb : n * bytes ≤ 281474976710656) (h63 : n ≤ maxLen)
    (h : wpList P ops Q rest (a.put o.dst (.slice (some ⟨w.heap.size, 0, none⟩) n n)) (w.alloc (.cells (List.replicate n z).toArray e))) : wpList P ops Q (o :: rest) a w := by
  refine wpList_plain hgd fun K hK => ?_
  obtain ⟨i, z', hi, hz', _, hsize, hby⟩ := T.parts
  have : z' = z := by rw [hi] at hz; simpa [hz'] using hz
  subst this
  have hh : (i.bytes : Int) * (n : Int) ≤ 281474976710656 := by
    have h : ((i.bytes * n : Nat) : Int) ≤ 281474976710656 := by rw [hby, Nat.mul_comm]; omega
    rwa [Int.natCast_mul] at h
  have hrun := run_make (P := P) w t e i z' T.ht hi hz' .i64 .i64 n n (by omega) (Int.le_refl _) hh (by simp [maxLen] at h63; omega)
  simp only [Int.toNat_natCast, hsize, Nat.mul_one, hz1, madeCells_one] at hrun
  unfold Oper.wp
  have he : (execOp a.eval o).run P w = .ok (.value (.slice (some ⟨w.heap.size, 0, none⟩) n n)) (w.alloc (.cells (List.replicate n z').toArray e)) := by
    simp only [execOp, ho, hl, hc, Sem.run_bind, hrun, Result.andThen_ok]
    rfl
  rw [he]
  exact hK _ _ h
end

/-- A call hands back a slice of its own making, with nothing else turned. -/
def RetOwn (e : TypeId) (size n : Nat) (xs : List Value) (w : World) (en : Ending) (w' : World) : Prop :=
  ∃ v, en = .returned v ∧ Own w' e size v n xs ∧ Fresh w.heap.size v ∧ Below w.heap.size w w'
theorem Fresh.mono {B B' : Nat} {v : Value} (h : Fresh B v) (hB : B' ≤ B) : Fresh B' v := fun k hk => Nat.le_trans hB (h k hk)
theorem Fresh.at_ (B g o n c : Nat) (h : B ≤ g) : Fresh B (.slice (some ⟨g, o, none⟩) n c) := fun k hk => by cases hk; exact h
/-- A literal block, owned whole. -/
theorem Own.lit (w : World) (vs : Array Value) (e : TypeId) (size n g : Nat) (hg : g = w.heap.size) (h : vs.size = n * size) (hn : n ≤ maxLen) : Own (w.alloc (.cells vs e)) e size (.slice (some ⟨g, 0, none⟩) n n) n vs.toList := by
  subst hg
  have := Own.made (alloc_new w (.cells vs e)) (Nat.le_refl n) hn h
  rwa [List.take_of_length_le (by simp; omega)] at this
end Go.Proofs.Ytlpnomejpaoeaaa
