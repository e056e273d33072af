/- Package journal: Add and Open. -/
import Derived.Test.YtlpnomejpaoeaaaJournal
namespace Go.Proofs.Ytlpnomejpaoeaaa
set_option linter.unusedSimpArgs false
set_option linter.unusedVariables false
open Go.RowKit
set_option maxHeartbeats 400000
set_option maxRecDepth 20000

/-- The blocks of a journal that may turn. -/
abbrev JSet (j d : Nat) (v : Value) : Nat → Prop := fun k => k = j ∨ k = d ∨ v.ownBlock = some k
/-- What stands apart: the journal's block, its disk's, its list's. -/
structure Apart3 (j d : Nat) (v : Value) : Prop where
  jd : ¬ j = d
  vj : ¬ v.ownBlock = some j
  vd : ¬ v.ownBlock = some d

/-- A record was added. -/
def Added (w : World) (j d : Nat) (v : Value) (s : Bytes) (l : List Bytes) (r : Bytes) (e : Ending) (w' : World) : Prop :=
  ∃ v', e = .returned (.int .i64 0) ∧ JrnAt w' j d v' (l ++ [r]) false ∧ DiskAt w' d (s ++ framed r) (s ++ framed r).length false ∧ Kp (JSet j d v) w w' ∧ Apart3 j d v' ∧
    ∀ k, v'.ownBlock = some k → v.ownBlock = some k ∨ w.heap.size ≤ k

theorem journal_Add (j d : Nat) (v : Value) (s : Bytes) (lasts : Int) (l : List Bytes) (r : Bytes) (w : World) (hj : JrnAt w j d v l false) (hd : DiskAt w d s lasts false) (hap : Apart3 j d v)
    (hr1 : 1 ≤ r.length) (hr2 : r.length ≤ 512) (hs : s.length + r.length + 6 ≤ 1048576) (hl : l.length ≤ 1000000) :
    Calls Try.prog 35 #[rptr j, str r] w (Added w j d v s l r) := by
  obtain ⟨h0, h1, h2, f0, f1, f2⟩ := hj.facts
  have hne : r.isEmpty = false := by cases r <;> simp at hr1 ⊢
  have Hj := hid hj
  have Hd := hid hd
  have hfl := framed_length r
  have Hfl := hid hfl
  have hjlt := hj.lt
  have hdlt := hd.lt
  obtain ⟨hjd, hvj, hvd⟩ := hap
  clear hj hd hfl
  go_enter Try.func35, Try.ntmps35
  go_wp2_with fail
  go_region_held3 (fun w' => w'.cell? ⟨j, 0, none⟩ = some (rptr d)) (first | (apply cell_keep <;> assumption) | (refine cell_kp hk2 ?_ ?_ <;> assumption) | go_keep) (first | (go_at_call 57; refine (journal_framed r (by omega) _).mono ?_; rintro e w1 ⟨rfl, hk1⟩) | (go_at_call 56; refine (disk_Append d s (framed r) lasts _ ((show DiskAt w.drew d s lasts false from Hd.out).below hk1) (by rw [Hfl.out]; omega)).mono ?_; rintro e w2 ⟨rfl, hd2, hk2⟩))
  have hvd' : ∀ k, v.ownBlock = some k → ¬ k = d := fun k hk e => hvd (by rw [← e]; exact hk)
  have hk02 : Kp (fun k => k = d) w w2 := by (repeat (first | exact Kp.refl _ _ | assumption | refine Kp.alloc ?_ _ | refine Kp.drew ?_ | refine Kp.drewN ?_ _ | refine Kp.setCell ?_ (by simp; try omega) _ | (apply Kp.trans; rotate_left; assumption) | (refine Kp.trans ?_ (Kp.of_below (by assumption)))))
  have hj2 := Hj.out.kept hk02 hjd hvd'
  obtain ⟨g0, g1, g2, q0, q1, q2⟩ := hj2.facts
  have Hj2 := hid hj2
  clear hj2
  go_wp2_with fail
  refine (disk_Sync d (s ++ framed r) lasts _ hd2).mono ?_
  rintro e w3 ⟨rfl, hd3, hk3⟩
  have hj3 := Hj2.out.kept hk3 hjd hvd'
  clear g0 g1 g2 q0 q1 q2
  obtain ⟨g0, g1, g2, q0, q1, q2⟩ := hj3.facts
  have Hj3 := hid hj3
  have hk03 : Kp (fun k => k = d) w w3 := hk02.trans hk3
  have hj3lt := hj3.lt
  clear hj3
  have hRd : ∀ (W : World) (g : Nat), g = W.heap.size → Rd (W.alloc (.cells #[str r] 9)) 1 (.slice (some ⟨g, 0, none⟩) 1 1) 1 (strCells [r]) :=
    fun W g hg => Rd.lit W _ _ 1 1 g hg rfl (by decide)
  have HRd := hid hRd
  clear hRd
  go_wp2_with (at_builtin; refine wpList_app rfl _ _ rfl sl_strings v _ _ rfl (Hj3.out.own.below (below_alloc _ _)) _ 1 _ rfl (HRd.out _ _ rfl) (strCells_one _) (by unfold maxLen; omega) (by omega) ?_; intro v4 w4 hap; obtain ⟨p4, c4, rfl⟩ := hap.own.form; have h4 := hap.kp.heap (alloc_old (x := .cells #[str r] 9) Hj3.out.at_) hvj; have hcb : w4.cell? ⟨j, 1, none⟩ = some v := (by rw [cell_of h4]; rfl); have hfb := free_of h4 1)
  go_ret
  have hz3 := hk03.size
  have hd4 : DiskAt w4 d (s ++ framed r) (s ++ framed r).length false := (hd3.below (below_alloc _ _)).kept hap.kp hvd
  have hset := only_set w4 j 1 (.slice p4 (l.length + 1) c4)
  have hnew : ∀ k, (Value.slice p4 (l.length + 1) c4).ownBlock = some k → v.ownBlock = some k ∨ w.heap.size ≤ k := fun k hk => by
    rcases hap.at_ k hk with h | h
    · exact .inl h
    · simp only [World.size_alloc] at h; exact .inr (by omega)
  have n1 : ¬ (Value.slice p4 (l.length + 1) c4).ownBlock = some j := fun h => by rcases hnew _ h with h | h; exact hvj h; omega
  have n2 : ¬ (Value.slice p4 (l.length + 1) c4).ownBlock = some d := fun h => by rcases hnew _ h with h | h; exact hvd h; omega
  refine ⟨_, rfl, ⟨?_, ?_⟩, hd4.kept hset (fun e => hjd e.symm), ?_, ⟨hjd, n1, n2⟩, hnew⟩
  · simpa using setCell_self (i := 1) h4 (.slice p4 (l.length + 1) c4)
  · have := hap.own.kept hset (fun k hk e => n1 (by rw [← e]; exact hk))
    simpa [strCells] using this
  · refine Kp.setCell (p := ⟨j, 1, none⟩) ?_ (fun _ => .inl rfl) _
    exact ((hk03.mono (T := JSet j d v) (fun k _ hk => .inr (.inl hk))).alloc _).then hap.kp (fun k _ hk => .inr (.inr hk))

/-- The power is off: nothing is added. -/
theorem journal_Add_off (j d : Nat) (v : Value) (s : Bytes) (lasts : Int) (l : List Bytes) (r : Bytes) (w : World) (hj : JrnAt w j d v l false) (hd : DiskAt w d s lasts true) (hap : Apart3 j d v)
    (hr1 : 1 ≤ r.length) (hr2 : r.length ≤ 512) :
    Calls Try.prog 35 #[rptr j, str r] w fun e w' => e = .returned (.int .i64 10) ∧ JrnAt w' j d v l true ∧ Kp (fun k => k = j) w w' := by
  obtain ⟨h0, h1, h2, f0, f1, f2⟩ := hj.facts
  have hne : r.isEmpty = false := by cases r <;> simp at hr1 ⊢
  have Hj := hid hj
  have Hd := hid hd
  obtain ⟨hjd, hvj, hvd⟩ := hap
  clear hj hd
  go_enter Try.func35, Try.ntmps35
  go_wp2_with fail
  go_region_held3 (fun w' => w'.cell? ⟨j, 0, none⟩ = some (rptr d)) (first | (apply cell_keep <;> assumption) | go_keep) (first | (go_at_call 57; refine (journal_framed r (by omega) _).mono ?_; rintro e w1 ⟨rfl, hk1⟩) | (go_at_call 56; refine (disk_Append_off d s (framed r) lasts _ ((show DiskAt w.drew d s lasts true from Hd.out).below hk1)).mono ?_; rintro e w' ⟨rfl, rfl⟩))
  have hb1 : Below w.heap.size w w1 := by (repeat (first | exact pu_refl _ | assumption | refine pu_alloc ?_ _ | refine pu_drew ?_ | refine pu_drewN ?_ _ | refine pu_set ?_ (by simp; done) _ | (apply pu_trans; rotate_left; assumption)))
  have hj1 := Hj.out.below hb1
  obtain ⟨g0, g1, g2, q0, q1, q2⟩ := hj1.facts
  have Hj1 := hid hj1
  clear hj1
  go_wp2
  go_ret
  have hset := only_set w1 j 2 (.bool true)
  refine ⟨rfl, ⟨?_, ?_⟩, ?_⟩
  · simpa using setCell_self (i := 2) Hj1.out.at_ (.bool true)
  · exact Hj1.out.own.kept hset (fun k hk e => hvj (by rw [← e]; exact hk))
  · exact (Kp.of_below hb1).trans hset

/-- An error was the disk's before: nothing is added. -/
theorem journal_Add_dead (j d : Nat) (v : Value) (l : List Bytes) (r : Bytes) (w : World) (hj : JrnAt w j d v l true) (hr1 : 1 ≤ r.length) (hr2 : r.length ≤ 512) :
    Calls Try.prog 35 #[rptr j, str r] w fun e w' => e = .returned (.int .i64 8) ∧ w = w' := by
  obtain ⟨h0, h1, h2, f0, f1, f2⟩ := hj.facts
  have hne : r.isEmpty = false := by cases r <;> simp at hr1 ⊢
  go_enter Try.func35, Try.ntmps35
  go_wp2
  go_ret
  exact ⟨rfl, rfl⟩
end Go.Proofs.Ytlpnomejpaoeaaa
