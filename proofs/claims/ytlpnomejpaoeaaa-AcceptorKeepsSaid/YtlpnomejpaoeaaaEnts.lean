/- Package acceptor: Entries. -/
import Derived.Test.YtlpnomejpaoeaaaSort
namespace Go.Proofs.Ytlpnomejpaoeaaa
set_option linter.unusedSimpArgs false
set_option linter.unusedVariables false
open Go.RowKit Go.Maps
set_option maxHeartbeats 400000
set_option maxRecDepth 20000

abbrev fromB (f : Int) (x : Entry) : Bool := decide (f ≤ x.slot)
/-- The entries from a slot on, by their slots. -/
def EntsFrom (l : List Entry) (f : Int) (out : List Entry) : Prop := out.Perm (l.filter (fromB f)) ∧ out.Pairwise (fun x y => x.slot < y.slot)

theorem ents_some {w wr w2 : World} {m : Nat} {ents acc ta tb : List Entry} {x : Entry} {v : Value} {f : Int}
    (hperm : (acc ++ (ta ++ x :: tb).filter (fromB f)).Perm (ents.filter (fromB f))) (hp : fromB f x = true) :
    ((acc ++ [x]) ++ (ta ++ tb).filter (fromB f)).Perm (ents.filter (fromB f)) := by
  refine List.Perm.trans ?_ hperm
  rw [List.append_assoc]
  refine List.Perm.append_left acc ?_
  simp only [List.filter_append, List.filter_cons, hp, if_true]
  rw [List.singleton_append]
  exact List.perm_middle.symm
theorem ents_none {ents acc ta tb : List Entry} {x : Entry} {f : Int}
    (hperm : (acc ++ (ta ++ x :: tb).filter (fromB f)).Perm (ents.filter (fromB f))) (hp : fromB f x = false) :
    (acc ++ (ta ++ tb).filter (fromB f)).Perm (ents.filter (fromB f)) := by
  simpa [List.filter_append, List.filter_cons, hp] using hperm

theorem ents_sorted {ents l : List Entry} {f : Int} (h : l.Perm (ents.filter (fromB f))) (hn : (ents.map (·.slot)).Nodup) (hs : l.Pairwise (fun x y => ¬ y.slot < x.slot)) : l.Pairwise (fun x y => x.slot < y.slot) := by
  have h1 : ((ents.filter (fromB f)).map (·.slot)).Nodup := (List.Sublist.map _ (List.filter_sublist)).nodup hn
  have h2 : (l.map (·.slot)).Nodup := (h.map _).nodup_iff.2 h1
  rw [List.Nodup, List.pairwise_map] at h2
  refine (hs.and h2).imp fun {a b} hab => ?_
  have := hab.1
  have := hab.2
  omega

set_option maxHeartbeats 1000000 in
theorem acceptor_Entries (A j : Nat) (st : St) (s : Value) (m : Nat) (f : Int) (w : World) (h : AccAt w A j st s m) (hl : st.ents.length ≤ 1000) :
    Calls Try.prog 13 #[rptr A, .int .u32 f] w (RetEnts (EntsFrom st.ents f) w) := by
  have hn : (st.ents.map (·.slot)).Nodup := by have := h.map.nodup; rwa [entMap_keys] at this
  have hmlt := h.map.lt
  have hm0 : w.cell? ⟨A, 14, none⟩ = some (.map (some m)) := by rw [cell_of h.at_]; rfl
  have Hm := hid h.map
  generalize st.ents = ents at *
  clear h
  have Hn := hid hn
  clear hn
  have hR : ∀ (x : Entry) (W : World) (g : Nat), g = W.heap.size → Rd (W.alloc (.cells (entCells x) 58)) 8 (.slice (some ⟨g, 0, none⟩) 1 1) 1 (entsCells [x]) := fun x W g hg => by
    have := Rd.lit W (entCells x) 58 8 1 g hg rfl (by decide)
    simpa [entsCells, encE] using this
  have HR := hid hR
  clear hR
  go_enter Try.func13, Try.ntmps13
  go_wp2_with (refine wpList_range rfl _ rfl mp_entries m (entMap ents) rfl Hm.out ?_; intro w1 hit hb1)
  have Hit := hid hit
  clear hit
  go_frame
  go_loopg [5] (ents.length) (fun n v wr => ∃ todo acc : List Entry, todo.length = n ∧ acc.length + n ≤ 1000 ∧ Iter .u32 wr w.heap.size m (entMap ents) (entMap todo) ∧ Own wr 58 8 v acc.length (entsCells acc) ∧ Fresh w.heap.size v ∧ ¬ v.ownBlock = some w.heap.size ∧ (acc ++ todo.filter (fromB f)).Perm (ents.filter (fromB f)) ∧ Below w.heap.size w wr)
  case atStart => exact ⟨ents, [], rfl, by simpa using hl, Hit.out, Own.nil _ _ _, Fresh.nil _, by simp [Value.ownBlock], List.Perm.refl _, hb1⟩
  case round =>
    obtain ⟨todo, acc, htl, hacc, hit, hown, hfr, hnr, hperm, hbw⟩ := hrel
    clear Hit
    cases todo with
    | nil =>
      have Hi := hid hit
      have Ho := hid hown
      clear hit hown
      go_wp2_with (refine wpList_next_nil rfl _ rfl _ m _ rfl Hi.out ?_)
      go_wp2_with fail
      refine (slices_SortFunc acc (by omega) _ _ Ho.out).mono ?_
      rintro e w2 ⟨l', q1, q2, rfl, hrd, hk2⟩
      go_wp2
      go_ret
      rw [List.filter_nil, List.append_nil] at hperm
      refine ⟨_, l', ⟨q1.trans hperm, ents_sorted (q1.trans hperm) Hn.out (q2.imp fun h => by omega)⟩, rfl, hrd, hfr, ?_⟩
      exact ⟨hk2.os.trans hbw.os, hk2.tape.trans hbw.tape, hk2.output.trans hbw.output, Nat.le_trans hbw.size hk2.size, fun i hi => (hk2.block i (Nat.lt_of_lt_of_le hi hbw.size) (fun e => by have := hfr _ e; omega)).trans (hbw.block i hi)⟩
    | cons y todo =>
      have hne : entMap (y :: todo) ≠ [] := by simp [entMap]
      generalize y :: todo = td at *
      have Hi := hid hit
      have Hne := hid hne
      have Ho := hid hown
      have Hp := hid hperm
      have hzr := hbw.size
      clear hit hne hown hperm
      go_wp2_with (first | (refine wpList_next_some rfl _ rfl _ m _ _ rfl Hi.out Hne.out ?_; intro t1 p t2 w2 hsp hcur hk2; obtain ⟨ta, x, tb, htd, rfl, rfl, rfl⟩ := entMap_split hsp; clear hsp) | (refine wpList_entry rfl _ rfl _ m _ _ _ rfl hcur ?_) | (at_builtin; refine wpList_app rfl _ _ rfl sl_entries u5 _ _ rfl ((Ho.out.kept hk2 (fun k hk e => hnr (by rw [← e]; exact hk))).below (pu_alloc (pu_alloc (pu_refl w2) _) _)) _ 1 _ rfl (HR.out x _ _ (by simp)) (entsCells_one [x]) (by unfold maxLen; omega) (by omega) ?_; intro v5 w5 hap))
      all_goals
        have hlen : gk = (ta ++ x :: tb).length := by rw [← htd]; exact htl.symm
        have hperm := Hp.out
        rw [htd] at hperm
      · rename_i hge
        have hlt2 := hk2.size
        have hkA : Kp (fun k => u5.ownBlock = some k) w2 w5 := (Kp.of_below (S := fun k => u5.ownBlock = some k) (pu_alloc (pu_alloc (pu_refl w2) _) _)).trans hap.kp
        have hcur5 := hcur.kept hkA hnr (fun e => by have := hfr _ e; omega)
        have hown5 : Own w5 58 8 v5 (acc ++ [x]).length (entsCells (acc ++ [x])) := by
          have := hap.own
          simpa [entsCells, List.flatMap_append] using this
        go_roundg (gk - 1)
        case measure => rw [hlen, List.length_append, List.length_cons]; omega
        case rel =>
          refine ⟨ta ++ tb, acc ++ [x], by rw [hlen]; simp, by rw [hlen] at hacc ⊢; simp at hacc ⊢; omega, (by rw [entMap_append]; exact hcur5.iter), hown5, ?_, ?_, ents_some (w := w) (wr := w) (w2 := w) (m := m) (v := v5) hperm (by simpa [fromB] using hge), ?_⟩
          · intro k hk
            rcases hap.at_ k hk with h | h
            · exact hfr k h
            · simp at h; omega
          · intro hk
            rcases hap.at_ _ hk with h | h
            · exact hnr h
            · simp at h; omega
          · have h1 : Kp (fun k => k = w.heap.size ∨ u5.ownBlock = some k) wr w5 := (hk2.mono (fun k _ e => .inl e)).then hkA (fun k _ e => .inr e)
            exact ⟨h1.os.trans hbw.os, h1.tape.trans hbw.tape, h1.output.trans hbw.output, Nat.le_trans hbw.size h1.size, fun i hi => (h1.block i (Nat.lt_of_lt_of_le hi hbw.size) (by rintro (e | e); omega; have := hfr _ e; omega)).trans (hbw.block i hi)⟩
      · rename_i hge
        have hlt2 := hk2.size
        have hbA : Below w2.heap.size w2 (w2.alloc (.cells (entCells x) 58)) := below_alloc _ _
        have hcur5 := hcur.kept (S := fun _ => False) (Kp.of_below hbA) (fun f => f) (fun f => f)
        go_roundg (gk - 1)
        case measure => rw [hlen, List.length_append, List.length_cons]; omega
        case rel =>
          refine ⟨ta ++ tb, acc, by rw [hlen]; simp, by omega, (by rw [entMap_append]; exact hcur5.iter), (Ho.out.kept hk2 (fun k hk e => hnr (by rw [← e]; exact hk))).below hbA, hfr, hnr, ents_none hperm (by simpa [fromB] using hge), ?_⟩
          have h1 : Kp (fun k => k = w.heap.size) wr (w2.alloc (.cells (entCells x) 58)) := hk2.alloc _
          exact ⟨h1.os.trans hbw.os, h1.tape.trans hbw.tape, h1.output.trans hbw.output, Nat.le_trans hbw.size h1.size, fun i hi => (h1.block i (Nat.lt_of_lt_of_le hi hbw.size) (by omega)).trans (hbw.block i hi)⟩
end Go.Proofs.Ytlpnomejpaoeaaa
