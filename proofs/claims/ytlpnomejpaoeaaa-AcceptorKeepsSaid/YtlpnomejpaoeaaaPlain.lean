/- The document's acceptor, plainly: it agrees with the program's; what the program's acceptor keeps. -/
import Derived.Test.YtlpnomejpaoeaaaRef6
import Derived.Test.YtlpnomejpaoeaaaAct3
import Derived.Test.YtlpnomejpaoeaaaFirst
namespace Go.Proofs.Ytlpnomejpaoeaaa
set_option linter.unusedSimpArgs false
set_option linter.unusedVariables false
open Go.RowKit
set_option maxHeartbeats 400000
set_option maxRecDepth 20000

theorem refPut_perm (l : List REnt) (y : REnt) : (refPut l y).Perm (y :: l.filter (fun z => decide (z.slot ≠ y.slot))) := by
  induction l with
  | nil => exact List.Perm.refl _
  | cons x t ih =>
    unfold refPut
    split
    · exact List.Perm.refl _
    · rename_i h
      have hx : decide (x.slot ≠ y.slot) = true := by simp; omega
      rw [List.filter_cons, if_pos hx]
      exact (ih.cons x).trans (List.Perm.swap y x _)
theorem refPut_sorted (l : List REnt) (y : REnt) (h : l.Pairwise (fun a b => a.slot < b.slot)) : (refPut l y).Pairwise (fun a b => a.slot < b.slot) := by
  induction l with
  | nil => simp [refPut]
  | cons x t ih =>
    have hx := List.pairwise_cons.1 h
    unfold refPut
    split
    · rename_i hle
      refine List.pairwise_cons.2 ⟨fun z hz => ?_, h.filter _⟩
      obtain ⟨hz, hne⟩ := List.mem_filter.1 hz
      have hne : z.slot ≠ y.slot := by simpa using hne
      rcases List.mem_cons.1 hz with rfl | hz
      · omega
      · have := hx.1 z hz; omega
    · rename_i hle
      refine List.pairwise_cons.2 ⟨fun z hz => ?_, ih hx.2⟩
      have := (refPut_perm t y).mem_iff.1 hz
      rcases List.mem_cons.1 this with rfl | hz
      · omega
      · exact hx.1 z (List.mem_filter.1 hz).1
theorem refPut_mem {l : List REnt} {y z : REnt} (h : z ∈ refPut l y) : z = y ∨ z ∈ l := by
  rcases List.mem_cons.1 ((refPut_perm l y).mem_iff.1 h) with rfl | h
  · exact .inl rfl
  · exact .inr (List.mem_filter.1 h).1
theorem refPut_len (l : List REnt) (y : REnt) : (refPut l y).length ≤ l.length + 1 := by
  rw [(refPut_perm l y).length_eq, List.length_cons]
  have := List.length_filter_le (fun z : REnt => decide (z.slot ≠ y.slot)) l
  omega

theorem entPut_perm (l : List Entry) (e : Entry) (hn : (l.map (·.slot)).Nodup) : (entPut l e).Perm (e :: l.filter (fun z => decide (z.slot ≠ e.slot))) := by
  unfold entPut
  induction l with
  | nil => simp
  | cons x t ih =>
    rw [List.map_cons, List.nodup_cons] at hn
    have ih := ih hn.2
    by_cases hx : x.slot = e.slot
    · have h1 : (x :: t).any (fun y => y.slot == e.slot) = true := by simp [hx]
      have h2 : decide (x.slot ≠ e.slot) = false := by simp [hx]
      have h3 : t.filter (fun z => decide (z.slot ≠ e.slot)) = t := List.filter_eq_self.2 fun z hz => by
        have : x.slot ≠ z.slot := fun h => hn.1 (List.mem_map.2 ⟨z, hz, h.symm⟩)
        simp; omega
      have h4 : t.map (fun y => if y.slot == e.slot then e else y) = t := by
        conv => rhs; rw [← List.map_id t]
        refine List.map_congr_left fun z hz => ?_
        have : x.slot ≠ z.slot := fun h => hn.1 (List.mem_map.2 ⟨z, hz, h.symm⟩)
        have : (z.slot == e.slot) = false := by simp; omega
        simp [this]
      have h5 : (x.slot == e.slot) = true := by simp [hx]
      rw [if_pos h1, List.map_cons, h4, if_pos h5, List.filter_cons, h2, h3]
      exact List.Perm.refl _
    · have h2 : decide (x.slot ≠ e.slot) = true := by simp [hx]
      have hb : (x.slot == e.slot) = false := by simp [hx]
      rw [List.filter_cons, if_pos h2]
      have h1 : (x :: t).any (fun y => y.slot == e.slot) = t.any (fun y => y.slot == e.slot) := by simp [hb]
      rw [h1, List.map_cons]
      refine List.Perm.trans ?_ (List.Perm.swap e x _)
      split
      · rename_i h; rw [if_pos h] at ih; simp only [hb]; exact ih.cons x
      · rename_i h; rw [if_neg h] at ih; rw [List.cons_append]; exact ih.cons x

def REnt.ent (x : REnt) : Entry := ⟨x.slot, x.b, lawCmd x.c⟩
def REnt.fits (x : REnt) : Prop := (0 ≤ x.slot ∧ x.slot < 4294967296) ∧ x.b.fits ∧ (0 ≤ x.c ∧ x.c < 4294967296)
/-- The document's acceptor, and the program's state: they have the same. -/
structure Agree (r : RAcc) (st : St) : Prop where
  p : r.p = st.p
  low : r.low = st.low
  perm : (r.ents.map REnt.ent).Perm st.ents
  sorted : r.ents.Pairwise (fun x y => x.slot < y.slot)
  fits : ∀ x ∈ r.ents, x.fits

theorem Agree.nodup {r : RAcc} {st : St} (h : Agree r st) : (st.ents.map (·.slot)).Nodup := by
  refine (h.perm.map _).nodup_iff.1 ?_
  rw [List.map_map]
  have h1 := h.sorted
  rw [List.Nodup, List.pairwise_map]
  exact h1.imp fun h e => by have : (_ : Int) = _ := e; simp [REnt.ent] at this; omega
theorem sorted_unique {a b : List Entry} (h : a.Perm b) (ha : a.Pairwise (fun x y => x.slot < y.slot)) (hb : b.Pairwise (fun x y => x.slot < y.slot)) : a = b :=
  List.Perm.eq_of_pairwise (le := fun x y : Entry => x.slot < y.slot) (fun x y _ _ h1 h2 => by omega) ha hb h
theorem Agree.ents {r : RAcc} {st : St} (h : Agree r st) {f : Int} {out : List Entry} (ho : EntsFrom st.ents f out) : out = (r.from_ f).map REnt.ent := by
  refine sorted_unique (ho.1.trans ?_) ho.2 ?_
  · refine (h.perm.symm.filter _).trans ?_
    rw [List.filter_map]
    exact List.Perm.refl _
  · rw [List.pairwise_map]
    exact (h.sorted.filter _).imp fun h => h

theorem Agree.acceptErr {r : RAcc} {st : St} (h : Agree r st) (b : Ballot) (slot : Int) : r.acceptErr b slot = acceptErr st b slot := by
  unfold RAcc.acceptErr Go.Proofs.Ytlpnomejpaoeaaa.acceptErr
  rw [h.p, h.low]
  have e : (st.low + 16 ≤ slot) = (16 ≤ slot - st.low) := by apply propext; omega
  simp only [e]
theorem Agree.prepErr {r : RAcc} {st : St} (h : Agree r st) (b : Ballot) (f : Int) : r.prepErr b f = prepErr st b f := by
  unfold RAcc.prepErr Go.Proofs.Ytlpnomejpaoeaaa.prepErr
  rw [h.p, h.low]

theorem hi_eq {p b : Ballot} (hp : p.fits) (hb : b.fits) (h : b.below p = false) : hi p b = b := by
  obtain ⟨pn, pb⟩ := p
  obtain ⟨bn, bb⟩ := b
  obtain ⟨p1, p2⟩ := hp
  obtain ⟨b1, b2⟩ := hb
  simp only [Ballot.below, Bool.or_eq_false_iff, decide_eq_false_iff_not, Bool.and_eq_false_iff, beq_eq_false_iff_ne, ne_eq] at h p1 p2 b1 b2
  unfold hi highest
  simp only [List.foldl_cons, List.foldl_nil, Ballot.zero]
  have hz : (if Ballot.below ⟨0, 0⟩ ⟨pn, pb⟩ = true then (⟨pn, pb⟩ : Ballot) else ⟨0, 0⟩) = ⟨pn, pb⟩ := by
    split
    · rfl
    · rename_i h0
      simp only [Ballot.below, Bool.or_eq_true, decide_eq_true_eq, Bool.and_eq_true, beq_iff_eq] at h0
      rw [Ballot.mk.injEq]
      omega
  rw [hz]
  split
  · rfl
  · rename_i h0
    simp only [Ballot.below, Bool.or_eq_true, decide_eq_true_eq, Bool.and_eq_true, beq_iff_eq] at h0
    rw [Ballot.mk.injEq]
    omega
/-- What was promised never falls. -/
theorem hi_ge {p b : Ballot} (hp : p.fits) (hb : b.fits) : (hi p b).below p = false := by
  cases h : b.below p with
  | false =>
    rw [hi_eq hp hb h]; exact h
  | true =>
    have e : hi p b = p := by
      obtain ⟨pn, pb⟩ := p
      obtain ⟨bn, bb⟩ := b
      obtain ⟨p1, p2⟩ := hp
      obtain ⟨b1, b2⟩ := hb
      simp only [Ballot.below, Bool.or_eq_true, decide_eq_true_eq, Bool.and_eq_true, beq_iff_eq] at h p1 p2 b1 b2
      unfold hi highest
      simp only [List.foldl_cons, List.foldl_nil, Ballot.zero]
      have hz : (if Ballot.below ⟨0, 0⟩ ⟨pn, pb⟩ = true then (⟨pn, pb⟩ : Ballot) else ⟨0, 0⟩) = ⟨pn, pb⟩ := by
        split
        · rfl
        · rename_i h0
          simp only [Ballot.below, Bool.or_eq_true, decide_eq_true_eq, Bool.and_eq_true, beq_iff_eq] at h0
          rw [Ballot.mk.injEq]
          omega
      rw [hz]
      split
      · rename_i h0
        simp only [Ballot.below, Bool.or_eq_true, decide_eq_true_eq, Bool.and_eq_true, beq_iff_eq] at h0
        omega
      · rfl
    rw [e]
    simp [Ballot.below]

theorem Agree.accept {r : RAcc} {st : St} (h : Agree r st) (hp : st.p.fits) {b : Ballot} (hb : b.fits) {slot c : Int} (hs : 0 ≤ slot ∧ slot < 4294967296) (hc : 0 ≤ c ∧ c < 4294967296) (he : Go.Proofs.Ytlpnomejpaoeaaa.acceptErr st b slot = 0) :
    Agree (r.accept b slot c) { st with p := hi st.p b, ents := entPut st.ents ⟨slot, b, lawCmd c⟩ } := by
  have hnb : b.below st.p = false := by
    unfold Go.Proofs.Ytlpnomejpaoeaaa.acceptErr at he
    split at he
    · cases he
    · split at he
      · cases he
      · split at he
        · cases he
        · rename_i h; simpa using h
  unfold RAcc.accept
  rw [h.acceptErr, if_pos he]
  refine ⟨(hi_eq hp hb hnb).symm, h.low, ?_, refPut_sorted _ _ h.sorted, fun x hx => ?_⟩
  · refine ((refPut_perm r.ents ⟨slot, b, c⟩).map _).trans (List.Perm.trans ?_ (entPut_perm _ _ h.nodup).symm)
    rw [List.map_cons]
    refine List.Perm.cons _ ?_
    refine List.Perm.trans ?_ (h.perm.filter _)
    rw [List.filter_map]
    exact List.Perm.refl _
  · rcases refPut_mem hx with rfl | hx
    · exact ⟨hs, hb, hc⟩
    · exact h.fits x hx
theorem Agree.truncate {r : RAcc} {st : St} (h : Agree r st) {low : Int} (v : View) (hlt : st.low < low) : Agree (r.truncate low) (st.cut low v) := by
  have hm : max st.low low = low := by omega
  unfold RAcc.truncate St.cut
  rw [h.low, if_pos hlt, hm]
  refine ⟨h.p, rfl, ?_, h.sorted.filter _, fun x hx => h.fits x (List.mem_filter.1 hx).1⟩
  have : (r.from_ low).map REnt.ent = (r.ents.map REnt.ent).filter (fun x => !decide (x.slot < low)) := by
    rw [List.filter_map]
    unfold RAcc.from_
    congr 1
    refine List.filter_congr fun x _ => ?_
    simp only [Function.comp, REnt.ent]
    by_cases hx : low ≤ x.slot
    · have h1 : ¬ x.slot < low := by omega
      simp [hx, h1]
    · have h1 : x.slot < low := by omega
      simp [hx, h1]
  show ((r.from_ low).map REnt.ent).Perm _
  rw [this]
  exact h.perm.filter _
theorem Agree.prepare {r : RAcc} {st : St} (h : Agree r st) {b : Ballot} {f : Int} (he : Go.Proofs.Ytlpnomejpaoeaaa.prepErr st b f = 0) : Agree (r.prepare b f) { st with p := b } := by
  unfold RAcc.prepare
  rw [h.prepErr, if_pos he]
  exact ⟨rfl, h.low, h.perm, h.sorted, h.fits⟩

theorem St.slots16 {low : Int} {l : List Entry} (h : l.Pairwise (fun x y => x.slot < y.slot)) (hs : ∀ x ∈ l, low ≤ x.slot ∧ x.slot < low + 16) : l.length ≤ 16 := by
  suffices ∀ (l : List Entry) (n : Nat), l.Pairwise (fun x y => x.slot < y.slot) → (∀ x ∈ l, low + (16 - n) ≤ x.slot ∧ x.slot < low + 16) → l.length ≤ n from this l 16 h (fun x hx => by have := hs x hx; omega)
  intro l
  induction l with
  | nil => simp
  | cons x t ih =>
    intro n hp hs
    have hx := hs x (by simp)
    have hp := List.pairwise_cons.1 hp
    cases n with
    | zero => omega
    | succ n =>
      have := ih n hp.2 (fun y hy => by have h1 := hp.1 y hy; have h2 := hs y (by simp [hy]); omega)
      simp only [List.length_cons]; omega
/-- What the acceptor's state is worth: a slot once, all slots within sixteen. -/
structure St.inv (st : St) : Prop where
  nodup : (st.ents.map (·.slot)).Nodup
  within : ∀ x ∈ st.ents, st.low ≤ x.slot ∧ x.slot < st.low + 16
theorem entPut_mem_iff {l : List Entry} (hn : (l.map (·.slot)).Nodup) (e y : Entry) : y ∈ entPut l e ↔ y = e ∨ (y ∈ l ∧ y.slot ≠ e.slot) := by
  rw [(entPut_perm l e hn).mem_iff, List.mem_cons, List.mem_filter]
  simp
theorem St.inv.accept {st : St} (h : st.inv) {p b : Ballot} {slot : Int} {c : Cmd} (he : acceptErr st b slot = 0) : St.inv { st with p := p, ents := entPut st.ents ⟨slot, b, c⟩ } := by
  have h1 : ¬ slot < st.low := fun h1 => by simp [acceptErr, h1] at he
  have h2 : ¬ 16 ≤ slot - st.low := fun h2 => by simp [acceptErr, h1, h2] at he
  refine ⟨?_, fun x hx => ?_⟩
  · refine ((entPut_perm st.ents ⟨slot, b, c⟩ h.nodup).map _).nodup_iff.2 ?_
    rw [List.map_cons, List.nodup_cons]
    refine ⟨fun hm => ?_, (List.Sublist.map _ List.filter_sublist).nodup h.nodup⟩
    obtain ⟨z, hz, e⟩ := List.mem_map.1 hm
    have := (List.mem_filter.1 hz).2
    simp at this
    exact this e
  · rcases (entPut_mem_iff h.nodup _ _).1 hx with rfl | ⟨hx, _⟩
    · show st.low ≤ slot ∧ slot < st.low + 16
      omega
    · exact h.within x hx
theorem St.inv.cut {st : St} (h : st.inv) (low : Int) (v : View) : (st.cut low v).inv := by
  refine ⟨(List.Sublist.map _ List.filter_sublist).nodup h.nodup, fun x hx => ?_⟩
  obtain ⟨hx, h2⟩ := List.mem_filter.1 hx
  have := h.within x hx
  have h2 : ¬ x.slot < max st.low low := by simpa using h2
  simp only [St.cut]
  omega
theorem EntsFrom.mem {l out : List Entry} (h : EntsFrom l 0 out) (hs : ∀ x ∈ l, 0 ≤ x.slot) (x : Entry) : x ∈ out ↔ x ∈ l := by
  rw [h.1.mem_iff, List.mem_filter]
  constructor
  · exact fun h => h.1
  · exact fun hx => ⟨hx, by simpa using hs x hx⟩
theorem EntsFrom.len {l out : List Entry} {low : Int} (h : EntsFrom l 0 out) (hw : ∀ x ∈ l, low ≤ x.slot ∧ x.slot < low + 16) : out.length ≤ 16 :=
  St.slots16 (low := low) h.2 fun x hx => hw x (List.mem_filter.1 (h.1.mem_iff.1 hx)).1
/-- What was accepted stays: till another one is accepted in its slot, or it is cut. -/
def Stays (a b : St) (acc : Bool) (slot : Int) : Prop := ∀ e ∈ a.ents, e ∈ b.ents ∨ (acc = true ∧ e.slot = slot) ∨ e.slot < b.low
theorem Stays.same {a b : St} (h : b.ents = a.ents) (acc : Bool) (slot : Int) : Stays a b acc slot := fun e he => .inl (by rw [h]; exact he)
theorem Stays.accept {st : St} (h : st.inv) (p : Ballot) (x : Entry) : Stays st { st with p := p, ents := entPut st.ents x } true x.slot := fun e he => by
  by_cases hs : e.slot = x.slot
  · exact .inr (.inl ⟨rfl, hs⟩)
  · exact .inl ((entPut_mem_iff h.nodup _ _).2 (.inr ⟨he, hs⟩))
theorem Stays.cut (st : St) (low : Int) (v : View) (acc : Bool) (slot : Int) : Stays st (st.cut low v) acc slot := fun e he => by
  by_cases hs : e.slot < max st.low low
  · exact .inr (.inr hs)
  · exact .inl (List.mem_filter.2 ⟨he, by simp [hs]⟩)
end Go.Proofs.Ytlpnomejpaoeaaa
