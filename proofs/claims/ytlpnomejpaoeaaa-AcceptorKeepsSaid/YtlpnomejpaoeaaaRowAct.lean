/- A law's argument that is a slice of acts: what it reads as, told as a list. -/
import Derived.Test.YtlpnomejpaoeaaaActs
import Derived.Test.YtlpnomejpaoeaaaPost
import Derived.ShutString
import Derived.ChangeOld
import Derived.Deep.Slices
import Derived.Deep.Fields
import Derived.ChangeSame
namespace Go.Proofs.Ytlpnomejpaoeaaa
set_option linter.unusedSimpArgs false
set_option linter.unusedVariables false
open Go.ChangeShapes Go.WideShapes Go.ChangeAt Go.RowKit Go.Deep

section
variable {H : Type} {enc : TypeId × Value → H} {P : Program} {w : World} {base : Nat} {spare : Nat → Bool} {held : Bool}
/-- An element of a slice of structs of one-cell fields: each field's cell and reading. -/
theorem open_elems {t e : TypeId} {fs : Array Field} {fuel : Nat} {cs : List Value} {x : DataW H × List MemPlace} (ht : P.underlying t = some (.slice e)) (he : P.underlying e = some (.struct fs))
    (hone : oneCellFields P fs = true) (hC : P.cellsOf e = fs.size) (h : DataW.trod enc P w base spare held fuel t cs = some x) :
    cs = [.slice none 0 0] ∨
    ∃ (a : Addr) (len cap : Nat), cs = [.slice (some a) len cap] ∧ len ≤ cap ∧ cap ≤ maxLen ∧
      ∀ i, i < len → ∀ (j : Nat) (f : Field), fs[j]? = some f → ∃ (v : Value) (y : DataW H × List MemPlace) (n : Nat), w.cell? (a.add (i * fs.size + j)) = some v ∧ DataW.trod enc P w base spare held n f.type [v] = some y := by
  rcases open_slice ht h with ⟨hcs, _⟩ | ⟨a, len, cap, m, n, D, Pl, hcs, hb, hl, hm, hmm, hx, hi⟩
  · exact .inl hcs
  · refine .inr ⟨a, len, cap, hcs, hl, hm, fun i him j f hj => ?_⟩
    have him' : i < m := by
      rw [hmm]
      split <;> omega
    obtain ⟨cs', hc, ht'⟩ := hi i him'
    rw [hC] at hc
    obtain ⟨ys, n', hn', hy, hlen, hyl, hf⟩ := DataW.trod_struct he ht'
    obtain ⟨_, hcl, hat⟩ := World.cells?_some hc
    obtain ⟨ho, hk⟩ := hone_of hone j f hj
    have hjl : j < fs.size := (Array.getElem?_eq_some_iff.1 hj).1
    have hcell := hat j hjl
    have hv : cs'[j]? = some (cs'[j]'(by omega)) := List.getElem?_eq_getElem (by omega)
    have h1 := hf j f hj
    rw [ho, hk] at h1
    have hone' : (cs'.drop j).take 1 = [cs'[j]'(by omega)] := by
      rw [List.drop_eq_getElem_cons (by omega)]
      rfl
    rw [hone'] at h1
    have hys : ys[j]? = some (ys[j]'(by omega)) := List.getElem?_eq_getElem (by omega)
    exact ⟨_, _, _, by rw [← Go.Deep.add_add, hcell, hv], h1.trans hys⟩
end

theorem actCells_length (l : List LawAct) : (actCells l).length = l.length * 5 := by
  induction l with
  | nil => rfl
  | cons p l ih =>
    have h5 : ((actArr p).toList).length = 5 := rfl
    simp only [actCells, List.flatMap_cons, List.length_append, List.length_cons, List.length_nil] at ih ⊢; omega
/-- What came in as a slice of acts is a list of acts. -/
theorem acts_of {H : Type} {enc : TypeId × Value → H} {W : World} {d : DataW H} {ps : List MemPlace} {a0 : Option Addr} {len0 cap0 : Nat}
    (h : DataW.Trod enc Try.prog W 0 (fun _ => true) true 22 (.slice a0 len0 cap0) d ps) : ∃ l : List LawAct, (∀ x ∈ l, x.fits) ∧ l.length ≤ maxLen ∧ ActsAt W (.slice a0 len0 cap0) l := by
  obtain ⟨fuel, hf⟩ := h
  rcases open_elems Try.underlying22 Try.underlying38 (by kernel_rfl) (by kernel_rfl) hf with hcs | ⟨a, len, cap, hcs, hl, hm, hi⟩
  · simp [Value.cells] at hcs
    obtain ⟨rfl, rfl, rfl⟩ := hcs
    exact ⟨[], by simp, by simp, _, _, rfl, fun h => by simp at h⟩
  · simp [Value.cells] at hcs
    obtain ⟨rfl, rfl, rfl⟩ := hcs
    have hx : ∀ i, i < len0 → ∃ x : LawAct, x.fits ∧ ∀ j u, j < 5 → (actArr x).toList[j]? = some u → W.cell? (a.add (i * 5 + j)) = some u := fun i hil => by
      obtain ⟨v0, y0, n0, c0, t0⟩ := hi i hil 0 _ rfl
      obtain ⟨v1, y1, n1, c1, t1⟩ := hi i hil 1 _ rfl
      obtain ⟨v2, y2, n2, c2, t2⟩ := hi i hil 2 _ rfl
      obtain ⟨v3, y3, n3, c3, t3⟩ := hi i hil 3 _ rfl
      obtain ⟨v4, y4, n4, c4, t4⟩ := hi i hil 4 _ rfl
      obtain ⟨m0, e0, r0, b0⟩ := DataW.trod_int Try.underlying3 t0
      obtain ⟨m1, e1, r1, b1⟩ := DataW.trod_int Try.underlying28 t1
      obtain ⟨m2, e2, r2, b2⟩ := DataW.trod_int Try.underlying5 t2
      obtain ⟨m3, e3, r3, b3⟩ := DataW.trod_int Try.underlying28 t3
      obtain ⟨m4, e4, r4, b4⟩ := DataW.trod_int Try.underlying28 t4
      simp only [List.cons.injEq, and_true] at e0 e1 e2 e3 e4
      subst e0 e1 e2 e3 e4
      have q0 := bounds_i64 b0
      have q1 := bounds_u32 b1
      have q2 := bounds_u8 b2
      have q3 := bounds_u32 b3
      have q4 := bounds_u32 b4
      have f1 : 0 ≤ m1 ∧ m1 < 4294967296 := by omega
      have f2 : 0 ≤ m2 ∧ m2 < 256 := by omega
      have f3 : 0 ≤ m3 ∧ m3 < 4294967296 := by omega
      have f4 : 0 ≤ m4 ∧ m4 < 4294967296 := by omega
      refine ⟨⟨m0, m1, m2, m3, m4⟩, ⟨q0, ⟨f1, f2⟩, f3, f4⟩, fun j u hj hu => ?_⟩
      have hj' : j = 0 ∨ j = 1 ∨ j = 2 ∨ j = 3 ∨ j = 4 := by omega
      rcases hj' with rfl | rfl | rfl | rfl | rfl
      · cases hu; exact c0
      · cases hu; exact c1
      · cases hu; exact c2
      · cases hu; exact c3
      · cases hu; exact c4
    let f : Nat → LawAct := fun i => if h : i < len0 then Classical.choose (hx i h) else ⟨0, 0, 0, 0, 0⟩
    have hf' : ∀ i, i < len0 → (f i).fits ∧ ∀ j u, j < 5 → (actArr (f i)).toList[j]? = some u → W.cell? (a.add (i * 5 + j)) = some u := fun i h => by
      have e : f i = Classical.choose (hx i h) := by simp only [f]; rw [dif_pos h]
      rw [e]
      exact Classical.choose_spec (hx i h)
    have hlen : ((List.range len0).map f).length = len0 := by simp
    refine ⟨(List.range len0).map f, fun x hxm => ?_, by rw [hlen]; omega, _, cap0, by rw [hlen], fun hpos => ?_⟩
    · obtain ⟨i, hi', rfl⟩ := List.mem_map.1 hxm
      exact (hf' i (List.mem_range.1 hi')).1
    · rw [hlen] at hpos
      have hc0 := (hf' 0 hpos).2 0 _ (by omega) rfl
      have hspot : a.spot = none := by simpa [Addr.add] using World.cell?_spot hc0
      obtain ⟨b, off, spot⟩ := a
      have hspot : spot = none := hspot
      subst hspot
      have hadd : ∀ n, (⟨b, off, none⟩ : Addr).add n = ⟨b, off + n, none⟩ := fun n => by unfold Addr.add; split <;> simp_all
      have hblt : b < W.heap.size := by
        have hc0' := hc0
        rw [hadd] at hc0'
        rcases Nat.lt_or_ge b W.heap.size with h | h
        · exact h
        · simp [World.cell?, Array.getElem?_eq_none h] at hc0'
      refine ⟨by rw [actCells_length], .inr ⟨b, off, cap0, by rw [hlen], by rw [hlen]; exact hl, hm, hblt, fun j u hj => ?_⟩⟩
      have hjl : j < len0 * 5 := by
        have := (List.getElem?_eq_some_iff.1 hj).1
        rw [actCells_length, hlen] at this
        exact this
      have hk : j / 5 < len0 := by omega
      have hj5 : j = j / 5 * 5 + j % 5 := by omega
      have h5 := Nat.mod_lt j (by omega : 0 < 5)
      rw [hj5, actCells_at _ (j / 5) (j % 5) (by rw [hlen]; exact hk) h5] at hj
      have e : ((List.range len0).map f)[j / 5]'(by rw [hlen]; exact hk) = f (j / 5) := by simp
      rw [e] at hj
      have := (hf' (j / 5) hk).2 (j % 5) u h5 hj
      rw [hadd, ← hj5] at this
      exact this
theorem laid_out : laidOutB Try.prog = true := by kernel_rfl
theorem own_knob : ownKnob Try.prog.godebug = none := by kernel_rfl
end Go.Proofs.Ytlpnomejpaoeaaa
