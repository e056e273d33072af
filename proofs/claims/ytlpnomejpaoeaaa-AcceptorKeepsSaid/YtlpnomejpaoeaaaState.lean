/- Package acceptor: the state that lasts. -/
import Derived.Test.YtlpnomejpaoeaaaMark
import Derived.StillTailTactics
namespace Go.Proofs.Ytlpnomejpaoeaaa
set_option linter.unusedSimpArgs false
set_option linter.unusedVariables false
open Go.RowKit
set_option maxHeartbeats 400000
set_option maxRecDepth 20000

/-- An acceptor's state. -/
structure St where
  p : Ballot
  low : Int
  base : View
  ents : List Entry
/-- Its block: the journal, the promised ballot, the first slot that isn't cut, the base, the map. -/
abbrev accArr (j : Nat) (p : Ballot) (low : Int) (x : View) (s : Value) (m : Nat) : Array Value :=
  #[rptr j, .int .u32 p.n, .int .u8 p.by_, .int .u32 low, .int .u32 x.epoch, s, .int .u8 (x.l 0), .int .u8 (x.l 1), .int .u8 (x.l 2), .int .u8 (x.l 3), .int .u8 (x.l 4), .int .u8 (x.l 5), .int .u8 (x.l 6), .int .u8 (x.l 7), .map (some m)]
structure AccAt (w : World) (A j : Nat) (st : St) (s : Value) (m : Nat) : Prop where
  at_ : w.heap[A]? = some (.cells (accArr j st.p st.low st.base s m) 101 (0, 0))
  rd : Rd w 3 s st.base.members.length (memCells st.base.members)
  map : MapIs .u32 w m (entMap st.ents)
  am : ¬ A = m
  sA : ¬ s.ownBlock = some A
  sm : ¬ s.ownBlock = some m
theorem AccAt.kept {S : Nat → Prop} {w w' : World} {A j : Nat} {st : St} {s : Value} {m : Nat} (h : AccAt w A j st s m) (hk : Kp S w w') (hA : ¬ S A) (hm : ¬ S m) (hs : ∀ k, s.ownBlock = some k → ¬ S k) : AccAt w' A j st s m :=
  ⟨hk.heap h.at_ hA, h.rd.kept hk hs, h.map.kept hk hm, h.am, h.sA, h.sm⟩
theorem AccAt.below {w w' : World} {A j : Nat} {st : St} {s : Value} {m : Nat} (h : AccAt w A j st s m) (hb : Below w.heap.size w w') : AccAt w' A j st s m :=
  h.kept (S := fun _ => False) (Kp.of_below hb) (fun f => f) (fun f => f) (fun _ _ f => f)
theorem AccAt.lt {w : World} {A j : Nat} {st : St} {s : Value} {m : Nat} (h : AccAt w A j st s m) : A < w.heap.size := lt_of_block h.at_
abbrev sptr (A : Nat) : Value := .pointer (some ⟨A, 1, none⟩)

/-- Entries by slots: one more, or another one in its place. -/
def entPut (l : List Entry) (x : Entry) : List Entry := if l.any (fun y => y.slot == x.slot) then l.map (fun y => if y.slot == x.slot then x else y) else l ++ [x]
theorem entMap_put (l : List Entry) (x : Entry) : put (entMap l) x.slot (.agg (entCells x)) = entMap (entPut l x) := by
  unfold put entPut
  have e : (entMap l).any (fun p => p.1 == x.slot) = l.any (fun y => y.slot == x.slot) := by simp [entMap, List.any_map, Function.comp_def]
  rw [e]
  split
  · simp only [entMap, List.map_map]
    refine List.map_congr_left fun y _ => ?_
    simp only [Function.comp]
    split <;> rfl
  · simp [entMap]
def hi (p b : Ballot) : Ballot := highest [p, b]

theorem AccAt.turn {w w' : World} {A j : Nat} {st : St} {s : Value} {m : Nat} (h : AccAt w A j st s m) (hk : Only A w w') (p : Ballot) (low : Int)
    (h' : w'.heap[A]? = some (.cells (accArr j p low st.base s m) 101 (0, 0))) : AccAt w' A j { st with p := p, low := low } s m :=
  ⟨h', h.rd.kept hk (fun k hs e => h.sA (by rw [← e]; exact hs)), h.map.kept hk (fun e => h.am e.symm), h.am, h.sA, h.sm⟩

theorem state_promise (A j : Nat) (st : St) (s : Value) (m : Nat) (b : Ballot) (w : World) (h : AccAt w A j st s m) :
    Calls Try.prog 65 #[sptr A, .agg (balArr b)] w fun e w' => e = .returned (.tuple #[]) ∧ AccAt w' A j { st with p := hi st.p b } s m ∧ Only A w w' := by
  have H := hid h
  have hlt := h.lt
  have h1 : w.cell? ⟨A, 1, none⟩ = some (.int .u32 st.p.n) := by rw [cell_of h.at_]; rfl
  have h2 : w.cell? ⟨A, 2, none⟩ = some (.int .u8 st.p.by_) := by rw [cell_of h.at_]; rfl
  have hRd : ∀ (W : World) (g : Nat), g = W.heap.size → Rd (W.alloc (.cells #[.int .u32 st.p.n, .int .u8 st.p.by_, .int .u32 b.n, .int .u8 b.by_] 42)) 2 (.slice (some ⟨g, 0, none⟩) 2 2) 2 (balCells [st.p, b]) :=
    fun W g hg => Rd.lit W _ _ 2 2 g hg rfl (by decide)
  have HRd := hid hRd
  clear hRd h
  go_enter Try.func65, Try.ntmps65
  go_wp2_with fail
  go_region_law (first | (go_simp; go_at_call 81; refine (mark_Highest [st.p, b] (by simp) _ _ (HRd.out _ _ (by simp)).drew).mono ?_; rintro e w1 ⟨rfl, hk1⟩; have hkw : Below w.heap.size w w1 := (by (repeat (first | exact pu_refl _ | assumption | refine pu_alloc ?_ _ | refine pu_drew ?_ | refine pu_drewN ?_ _ | refine pu_set ?_ (by simp; done) _ | (apply pu_trans; rotate_left; assumption)))); have g1 := cell_keep hkw h1; have g2 := cell_keep hkw h2; have hA1 := H.out.below hkw; have f1 := free_of hA1.at_ 1; have f2 := free_of hA1.at_ 2) | fail)
  all_goals
    go_end0
    have hk : Only A w1 ((w1.setCell ⟨A, 1, none⟩ (.int .u32 (highest [st.p, b]).n)).setCell ⟨A, 2, none⟩ (.int .u8 (highest [st.p, b]).by_)) := (only_set _ A 1 _).trans (only_set _ A 2 _)
    exact ⟨rfl, hA1.turn hk (hi st.p b) st.low (setCell_self (i := 2) (setCell_self (i := 1) hA1.at_ _) _), (Kp.of_below hkw).trans hk⟩

set_option maxHeartbeats 1000000 in
theorem state_accept (A j : Nat) (st : St) (s : Value) (m : Nat) (x : Entry) (w : World) (h : AccAt w A j st s m) :
    Calls Try.prog 67 #[sptr A, .agg (entCells x)] w fun e w' => e = .returned (.tuple #[]) ∧ AccAt w' A j { st with p := hi st.p x.b, ents := entPut st.ents x } s m ∧ Kp (fun k => k = A ∨ k = m) w w' := by
  have H := hid h
  have hlt := h.lt
  clear h
  go_enter Try.func67, Try.ntmps67
  go_wp2_with fail
  refine (state_promise A j st s m x.b _ (H.out.below (below_alloc _ _))).mono ?_
  rintro e w1 ⟨rfl, hA1, hk1⟩
  have hlt1 := hA1.lt
  have hmp : w1.cell? ⟨A, 14, none⟩ = some (.map (some m)) := by rw [cell_of hA1.at_]; rfl
  have hx1 := new_kept hk1 (by omega)
  have hz1 : w.heap.size < w1.heap.size := lt_of_block hx1
  have hent : ∀ i v, (entCells x)[i]? = some v → w1.cell? ⟨w.heap.size, i, none⟩ = some v := fun i v hv => by rw [cell_of hx1]; exact hv
  have e0 := hent 0 _ rfl
  have e1 := hent 1 _ rfl
  have e2 := hent 2 _ rfl
  have e3 := hent 3 _ rfl
  have e4 := hent 4 _ rfl
  have e5 := hent 5 _ rfl
  have e6 := hent 6 _ rfl
  have e7 := hent 7 _ rfl
  have HA1 := hid hA1
  clear hent hA1
  go_wp2_with fail
  go_still_tail 7, (by kernel_rfl)
  refine wpList_mapset rfl _ _ _ rfl mp_entries m (entMap st.ents) x.slot (.agg (entCells x)) rfl HA1.out.map rfl rfl ?_
  intro w2 hm2 hk2'
  have hk2 : Kp (fun i => i = m) w1 w2 := ⟨hk2'.1, hk2'.2, hk2'.3, hk2'.4, hk2'.5⟩
  refine wpList_nil ?_
  go_end0
  rw [entMap_put] at hm2
  have hA2 := hk2.heap HA1.out.at_ HA1.out.am
  have hr2 := HA1.out.rd.kept hk2 (fun k hs e => HA1.out.sm (by rw [← e]; exact hs))
  refine ⟨rfl, ⟨hA2, hr2, hm2, HA1.out.am, HA1.out.sA, HA1.out.sm⟩, ?_⟩
  have k1 : Kp (fun k => k = A ∨ k = m) w w1 := (Kp.of_below (S := fun k => k = A ∨ k = m) (below_alloc w (.cells (entCells x) 58))).then hk1 (fun k _ e => .inl e)
  exact k1.then hk2 (fun k _ e => .inr e)

end Go.Proofs.Ytlpnomejpaoeaaa
