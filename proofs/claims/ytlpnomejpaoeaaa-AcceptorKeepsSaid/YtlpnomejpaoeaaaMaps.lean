/- Maps with integers as keys: what they hold, in the order of their making; look-up, store, delete, ranges. -/
import Derived.Test.YtlpnomejpaoeaaaOwn2
import Derived.Maps.RangeRun
import Derived.MapKept
import Derived.ChangeMaps5
namespace Go.Proofs.Ytlpnomejpaoeaaa
set_option linter.unusedSimpArgs false
set_option linter.unusedVariables false
open Go.RowKit Go.ChangeMaps Go.Maps

/-- What a map's entries are. -/
def content (es : Array MapEntry) : List (Value × Value) := es.toList.map fun e => (e.key, e.val)
def keyed (k : IntKind) (l : List (Int × Value)) : List (Value × Value) := l.map fun p => (.int k p.1, p.2)

/-- The map's entries as a list, and what is kept of their birth. -/
structure MapFit (k : IntKind) (es : Array MapEntry) (clock : Nat) (l : List (Int × Value)) : Prop where
  eq : content es = keyed k l
  nodup : (l.map Prod.fst).Nodup
  born : ∀ e ∈ es.toList, e.born < clock
  borns : (es.toList.map (·.born)).Nodup

/-- Block b is a map that holds l. -/
def MapIs (k : IntKind) (w : World) (b : Nat) (l : List (Int × Value)) : Prop := ∃ es clock, w.heap[b]? = some (.map es clock) ∧ MapFit k es clock l

def lk (l : List (Int × Value)) (x : Int) : Option Value := (l.find? fun p => p.1 == x).map (·.2)
def put (l : List (Int × Value)) (x : Int) (v : Value) : List (Int × Value) := if l.any (fun p => p.1 == x) then l.map (fun p => if p.1 == x then (x, v) else p) else l ++ [(x, v)]
def del (l : List (Int × Value)) (x : Int) : List (Int × Value) := l.filter fun p => !(p.1 == x)

theorem MapIs.kept {S : Nat → Prop} {k : IntKind} {w w' : World} {b : Nat} {l : List (Int × Value)} (h : MapIs k w b l) (hk : Kp S w w') (hS : ¬ S b) : MapIs k w' b l :=
  let ⟨es, c, hb, f⟩ := h; ⟨es, c, hk.heap hb hS, f⟩
theorem MapIs.below {k : IntKind} {w w' : World} {b : Nat} {l : List (Int × Value)} (h : MapIs k w b l) (hb : Below w.heap.size w w') : MapIs k w' b l :=
  h.kept (S := fun _ => False) (Kp.of_below hb) (fun f => f)
theorem MapIs.lt {k : IntKind} {w : World} {b : Nat} {l : List (Int × Value)} (h : MapIs k w b l) : b < w.heap.size := let ⟨_, _, hb, _⟩ := h; lt_of_block hb
theorem MapIs.new (k : IntKind) (w : World) : MapIs k (w.alloc (.map #[] 0)) w.heap.size [] :=
  ⟨#[], 0, alloc_new _ _, ⟨rfl, by simp, by simp, by simp⟩⟩
theorem MapIs.nodup {k : IntKind} {w : World} {b : Nat} {l : List (Int × Value)} (h : MapIs k w b l) : (l.map Prod.fst).Nodup := let ⟨_, _, _, f⟩ := h; f.nodup

section
variable {P : Program}

/-- The search for a key. -/
theorem findNow_at (k : IntKind) (x : Int) : ∀ (es : List MapEntry) (l : List (Int × Value)) (i : Nat), es.map (fun e => (e.key, e.val)) = keyed k l →
    Instr.findNow (.int k) (.int k x) es i = some ((l.findIdx? fun p => p.1 == x).bind fun j => (l[j]?).map fun p => (i + j, p.2))
  | [], l, i, h => by
    have : l = [] := by cases l with | nil => rfl | cons p l => simp [keyed] at h
    subst this
    simp [Instr.findNow]
  | e :: es, l, i, h => by
    cases l with
    | nil => simp [keyed] at h
    | cons p l =>
      simp only [List.map_cons, keyed, List.cons.injEq, Prod.mk.injEq] at h
      obtain ⟨⟨hk, hv⟩, ht⟩ := h
      have ih := findNow_at k x es l (i + 1) ht
      simp only [Instr.findNow, hk, Instr.sameNow, if_true]
      by_cases hx : x = p.1
      · subst hx
        simp [hv, List.findIdx?_cons]
      · have h1 : (x == p.1) = false := by simp [hx]
        have h2 : (p.1 == x) = false := by simp [Ne.symm hx]
        simp only [h1, ih, List.findIdx?_cons, h2, Bool.false_eq_true, if_false]
        cases hq : l.findIdx? (fun p => p.1 == x) with
        | none => simp
        | some j => simp [Nat.add_assoc, Nat.add_comm 1 j]

theorem run_findKey_at {kt : TypeId} {k : IntKind} (hk : P.underlying kt = some (.int k)) (w : World) (x : Int) (es : List MapEntry) (l : List (Int × Value)) (h : es.map (fun e => (e.key, e.val)) = keyed k l) :
    (Instr.findKey kt (.int k x) es).run P w = .ok ((l.findIdx? fun p => p.1 == x).bind fun j => (l[j]?).map fun p => (j, p.2)) w := by
  have := findNow_at k x es l 0 h
  simp only [Nat.zero_add] at this
  simp [Instr.findKey, run_underlying hk, this]

theorem lk_idx (l : List (Int × Value)) (x : Int) : ((l.findIdx? fun p => p.1 == x).bind fun j => (l[j]?).map fun p => (j, p.2)).map (·.2) = lk l x := by
  unfold lk
  induction l with
  | nil => rfl
  | cons p l ih =>
    rw [List.findIdx?_cons, List.find?_cons]
    by_cases h : (p.1 == x) = true
    · simp [h]
    · simp only [Bool.not_eq_true] at h
      simp only [h, Bool.false_eq_true, if_false]
      rw [← ih]
      cases hq : l.findIdx? (fun p => p.1 == x) <;> simp [Function.comp_def]

theorem run_checkKey_int {kt : TypeId} {k : IntKind} (hk : P.underlying kt = some (.int k)) (w : World) (e : Bool) (x : Int) : (Instr.checkKey e 10000 kt (.int k x)).run P w = .ok () w := by
  have : ∀ n, (Instr.checkKey e (n + 1) kt (.int k x)).run P w = .ok () w := fun n => by simp [Instr.checkKey, run_underlying hk]
  exact this 9999

/-- 'v, ok := m[x]' ¦ 'm[x]'. -/
theorem run_lookup_at {t kt e : TypeId} {k : IntKind} (ht : P.underlying t = some (.map kt e)) (hk : P.underlying kt = some (.int k)) {z : Value} (hz : ∀ w, (zeroValue e).run P w = .ok z w) (w : World) (b : Nat) (l : List (Int × Value)) (h : MapIs k w b l) (x : Int) (ok : Bool) :
    (Instr.lookup t (.map (some b)) (.int k x) ok).run P w = .ok (if ok then .tuple #[(lk l x).getD z, .bool (lk l x).isSome] else (lk l x).getD z) w := by
  obtain ⟨es, clock, hb, hf⟩ := h
  have hfk := run_findKey_at (P := P) hk w x es.toList l hf.eq
  have hlk := lk_idx l x
  have hck := run_checkKey_int (P := P) hk w es.isEmpty x
  generalize ((l.findIdx? fun p => p.1 == x).bind fun j => (l[j]?).map fun p => (j, p.2)) = q at hfk hlk
  cases q with
  | none =>
    simp only [Option.map_none] at hlk
    simp [Instr.lookup, run_underlying ht, getObj, Sem.run, hb, hck, hfk, hz, ← hlk]
  | some q =>
    simp only [Option.map_some] at hlk
    simp [Instr.lookup, run_underlying ht, getObj, Sem.run, hb, hck, hfk, ← hlk]

theorem idx_some {l : List (Int × Value)} {x : Int} {j : Nat} (h : l.findIdx? (fun p => p.1 == x) = some j) : ∃ hj : j < l.length, l[j].1 = x := by
  rw [List.findIdx?_eq_some_iff_getElem] at h
  obtain ⟨hj, hp, _⟩ := h
  exact ⟨hj, by simpa using hp⟩
theorem any_idx {l : List (Int × Value)} {x : Int} {j : Nat} (h : l.findIdx? (fun p => p.1 == x) = some j) : l.any (fun p => p.1 == x) = true := by
  obtain ⟨hj, hx⟩ := idx_some h
  rw [List.any_eq_true]
  exact ⟨l[j], List.getElem_mem hj, by simp [hx]⟩
theorem any_none {l : List (Int × Value)} {x : Int} (h : l.findIdx? (fun p => p.1 == x) = none) : l.any (fun p => p.1 == x) = false := by
  rw [List.findIdx?_eq_none_iff] at h
  rw [List.any_eq_false]
  intro p hp
  simpa using h p hp
theorem key_unique {l : List (Int × Value)} (hn : (l.map Prod.fst).Nodup) {i j : Nat} (hi : i < l.length) (hj : j < l.length) (h : l[i].1 = l[j].1) : i = j := by
  have hp := List.pairwise_iff_getElem.1 hn
  rcases Nat.lt_trichotomy i j with hlt | rfl | hlt
  · exact absurd (by rw [List.getElem_map, List.getElem_map]; exact h) (hp i j (by simpa using hi) (by simpa using hj) hlt)
  · rfl
  · exact absurd (by rw [List.getElem_map, List.getElem_map]; exact h.symm) (hp j i (by simpa using hj) (by simpa using hi) hlt)
theorem put_idx {l : List (Int × Value)} {x : Int} {j : Nat} (v : Value) (hn : (l.map Prod.fst).Nodup) (h : l.findIdx? (fun p => p.1 == x) = some j) : put l x v = l.set j (x, v) := by
  obtain ⟨hj, hx⟩ := idx_some h
  unfold put
  rw [if_pos (any_idx h)]
  apply List.ext_getElem (by simp)
  intro m h1 h2
  simp only [List.length_map] at h1
  rw [List.getElem_map, List.getElem_set]
  by_cases hm : j = m
  · subst hm; simp [hx]
  · rw [if_neg hm, if_neg]
    intro he
    exact hm (key_unique hn hj h1 (by rw [hx]; exact (by simpa using he : l[m].1 = x).symm))
theorem put_keys {l : List (Int × Value)} {x : Int} (v : Value) (hn : (l.map Prod.fst).Nodup) : ((put l x v).map Prod.fst).Nodup := by
  cases h : l.findIdx? (fun p => p.1 == x) with
  | some j =>
    obtain ⟨hj, hx⟩ := idx_some h
    rw [put_idx v hn h, List.map_set]
    have : (l.map Prod.fst).set j x = l.map Prod.fst := by
      apply List.ext_getElem (by simp)
      intro m h1 h2
      rw [List.getElem_set]
      split
      · rename_i e; subst e; simp [hx]
      · rfl
    rw [this]; exact hn
  | none =>
    unfold put
    rw [if_neg (by rw [any_none h]; simp)]
    rw [List.map_append, List.nodup_append]
    refine ⟨hn, by simp, ?_⟩
    intro a ha b hb
    simp only [List.map_cons, List.map_nil, List.mem_cons, List.not_mem_nil, or_false] at hb
    subst hb
    intro e
    subst e
    rw [List.findIdx?_eq_none_iff] at h
    obtain ⟨p, hp, rfl⟩ := List.mem_map.1 ha
    simpa using h p hp

theorem setBlock_kp {w : World} {b : Nat} {o o' : Obj} (h : w.heap[b]? = some o) : Kp (fun k => k = b) w (setBlock w b o') :=
  ⟨rfl, rfl, rfl, by simp [setBlock], fun k _ hk => by simp [setBlock, Array.getElem?_setIfInBounds, Ne.symm hk]⟩
theorem setBlock_at {w : World} {b : Nat} {o o' : Obj} (h : w.heap[b]? = some o) : (setBlock w b o').heap[b]? = some o' := by
  have := lt_of_block h
  simp [setBlock, Array.getElem?_setIfInBounds, this]

theorem content_length {k : IntKind} {es : Array MapEntry} {clock : Nat} {l : List (Int × Value)} (f : MapFit k es clock l) : es.size = l.length := by
  have := congrArg List.length f.eq
  simpa [content, keyed] using this
theorem content_at {k : IntKind} {es : Array MapEntry} {clock : Nat} {l : List (Int × Value)} (f : MapFit k es clock l) (j : Nat) (hj : j < l.length) : ∃ h : j < es.size, es[j].key = .int k l[j].1 ∧ es[j].val = l[j].2 := by
  have hs := content_length f
  refine ⟨by omega, ?_⟩
  have h1 : (content es)[j]? = (keyed k l)[j]? := by rw [f.eq]
  have hj' : j < es.size := by omega
  simp only [content, keyed, List.getElem?_map] at h1
  rw [List.getElem?_eq_getElem hj, List.getElem?_eq_getElem (by simpa using hj')] at h1
  simpa using h1

/-- 'm[x] = v'. -/
theorem run_update_at {t kt e : TypeId} {k : IntKind} (ht : P.underlying t = some (.map kt e)) (hk : P.underlying kt = some (.int k)) (w : World) (b : Nat) (l : List (Int × Value)) (h : MapIs k w b l) (x : Int) (v : Value) :
    ∃ w', (Instr.mapUpdate t (.map (some b)) (.int k x) v).run P w = .ok () w' ∧ MapIs k w' b (put l x v) ∧ Kp (fun i => i = b) w w' := by
  obtain ⟨es, clock, hb, hf⟩ := h
  have hfk := run_findKey_at (P := P) hk w x es.toList l hf.eq
  have hck := run_checkKey_int (P := P) hk w false x
  have hset : ∀ o', (setObj b o').run P w = .ok () (setBlock w b o') := fun o' => by simp [setObj, Sem.run, hb, setBlock]
  cases hq : l.findIdx? (fun p => p.1 == x) with
  | none =>
    rw [hq] at hfk
    refine ⟨setBlock w b (.map (es.push { key := .int k x, val := v, born := clock }) (clock + 1)), ?_, ⟨_, _, setBlock_at hb, ?_⟩, setBlock_kp hb⟩
    · simp [Instr.mapUpdate, run_underlying ht, getObj, Sem.run, hb, hck, hfk, hset]
    · have hp : put l x v = l ++ [(x, v)] := by unfold put; rw [if_neg (by rw [any_none hq]; simp)]
      refine ⟨?_, put_keys v hf.nodup, ?_, ?_⟩
      · rw [hp]
        have := hf.eq
        simp only [content, keyed, Array.toList_push, List.map_append, List.map_cons, List.map_nil] at this ⊢
        rw [this]
      · intro e' he'
        simp only [Array.toList_push, List.mem_append, List.mem_cons, List.not_mem_nil, or_false] at he'
        rcases he' with he' | rfl
        · have := hf.born e' he'; omega
        · simp
      · simp only [Array.toList_push, List.map_append, List.map_cons, List.map_nil]
        rw [List.nodup_append]
        refine ⟨hf.borns, by simp, ?_⟩
        intro a ha c hc
        simp only [List.mem_cons, List.not_mem_nil, or_false] at hc
        subst hc
        obtain ⟨e', he', rfl⟩ := List.mem_map.1 ha
        have := hf.born e' he'
        omega
  | some j =>
    obtain ⟨hj, hx⟩ := idx_some hq
    obtain ⟨hje, hkey, hval⟩ := content_at hf j hj
    rw [hq] at hfk
    simp only [Option.bind_some, List.getElem?_eq_getElem hj, Option.map_some] at hfk
    have hstay : (Instr.keyThatStays (((es[j]?).map (·.key)).getD (.int k x)) (.int k x)).run P w = .ok (.int k x) w := by
      have : ((es[j]?).map (·.key)).getD (.int k x) = .int k x := by rw [Array.getElem?_eq_getElem hje]; simp [hkey, hx]
      rw [this]
      have hs : ∀ n, Instr.sameBits n (.int k x) (.int k x) = true := fun n => by cases n <;> simp [Instr.sameBits]
      simp [Instr.keyThatStays, hs]
    refine ⟨setBlock w b (.map (es.modify j fun e => { e with key := .int k x, val := v }) clock), ?_, ⟨_, _, setBlock_at hb, ?_⟩, setBlock_kp hb⟩
    · simp [Instr.mapUpdate, run_underlying ht, getObj, Sem.run, hb, hck, hfk, hstay, hset]
    · have hborn : (es.modify j fun e => { e with key := .int k x, val := v }).toList.map (·.born) = es.toList.map (·.born) := by
        apply List.ext_getElem (by simp)
        intro m h1 h2
        simp only [List.getElem_map, Array.getElem_toList, Array.getElem_modify]
        split <;> rfl
      refine ⟨?_, put_keys v hf.nodup, ?_, by rw [hborn]; exact hf.borns⟩
      · rw [put_idx v hf.nodup hq]
        have hs := content_length hf
        apply List.ext_getElem (by simp [content, keyed, hs])
        intro m h1 h2
        simp only [content, keyed, List.getElem_map, Array.getElem_toList, Array.getElem_modify, List.getElem_set]
        simp only [keyed, List.length_map, List.length_set] at h2
        by_cases hm : j = m
        · subst hm; simp
        · obtain ⟨_, hk2, hv2⟩ := content_at hf m h2
          simp [hm, hk2, hv2]
      · intro e' he'
        have hm : e'.born ∈ (es.modify j fun e => { e with key := .int k x, val := v }).toList.map (·.born) := List.mem_map.2 ⟨e', he', rfl⟩
        rw [hborn] at hm
        obtain ⟨e2, he2, h2⟩ := List.mem_map.1 hm
        rw [← h2]; exact hf.born e2 he2
end
end Go.Proofs.Ytlpnomejpaoeaaa
