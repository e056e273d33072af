/- Package acceptor: what is asked of it. -/
import Derived.Test.YtlpnomejpaoeaaaAcc
import Derived.Deep.RegionHeld3
namespace Go.Proofs.Ytlpnomejpaoeaaa
set_option linter.unusedSimpArgs false
set_option linter.unusedVariables false
open Go.RowKit
set_option maxHeartbeats 400000
set_option maxRecDepth 20000

def goodB (n : Int) : Bool := decide (1 ≤ n) && decide (n ≤ 5)
theorem acceptor_good (n : Int) (w : World) :
    Calls Try.prog 31 #[.int .u8 n] w fun e w' => e = .returned (.bool (goodB n)) ∧ w = w' := by
  by_cases h1 : 1 ≤ n
  · have hv : goodB n = decide (n ≤ 5) := by simp [goodB, h1]
    rw [hv]
    go_enter Try.func31, Try.ntmps31
    go_wp2
    go_ret
    exact ⟨by rfl, rfl⟩
  · have hv : goodB n = false := by simp [goodB, h1]
    rw [hv]
    go_enter Try.func31, Try.ntmps31
    go_wp2
    go_ret
    exact ⟨by rfl, rfl⟩

theorem acceptor_holds (x : View) (s : Value) (w : World) (hs : Rd w 3 s x.members.length (memCells x.members)) :
    Calls Try.prog 32 #[.agg (viewCells x s)] w fun e w' => e = .returned (.bool (decide (x.members.length ≤ 8))) ∧ Below w.heap.size w w' := by
  obtain ⟨p, cap, rfl⟩ := hs.form
  have hb := below_alloc w (.cells (viewCells x (.slice p x.members.length cap)) 32)
  have Hb := hid hb
  clear hb
  go_enter Try.func32, Try.ntmps32
  go_wp2
  go_ret
  exact ⟨by simp; omega, Hb.out⟩

theorem acceptor_owner (self : Int) (hl : 0 ≤ self ∧ self < 256) (v : View) (hv : v.good) (w : World) :
    Calls Try.prog 39 #[str (Rec.birth self v).bytes] w fun e w' => e = .returned (.int .u8 self) ∧ Below w.heap.size w w' := by
  obtain ⟨hv1, hv2⟩ := hv
  have hwr : IntKind.u8.wrap self = self := by rw [IntKind.wrap_u8]; omega
  go_enter Try.func39, Try.ntmps39
  go_wp2_with fail
  refine (octet_Read _ _).mono ?_
  rintro e w1 ⟨rfl, hw1⟩
  have hb1 : Below w.heap.size w w1 := by rw [← hw1]; exact below_alloc _ _
  have hr1 : RdrAt w1 w.heap.size (Rec.birth self v).bytes 0 := by rw [← hw1]; exact alloc_new _ _
  clear hw1
  go_wp2_with fail
  refine (rd_num1 1 (by omega) _ (by simp [beBytes_length, viewBytes_length]; omega) _ _ hr1).mono ?_
  rintro e w2 ⟨rfl, hr2, hk2⟩
  go_wp2_with fail
  refine (rd_num1 _ hl _ (by simp [beBytes_length, viewBytes_length]; omega) _ _ hr2).mono ?_
  rintro e w3 ⟨rfl, hr3, hk3⟩
  go_wp2
  go_ret
  exact ⟨rfl, read_below hb1 (hk2.trans hk3)⟩

theorem acceptor_Promised (A j : Nat) (st : St) (s : Value) (m : Nat) (w : World) (h : AccAt w A j st s m) :
    Calls Try.prog 12 #[rptr A] w fun e w' => e = .returned (.agg (balArr st.p)) ∧ Below w.heap.size w w' := by
  have hlt := h.lt
  have k1 : w.cell? ⟨A, 1, none⟩ = some (.int .u32 st.p.n) := by rw [cell_of h.at_]; rfl
  have k2 : w.cell? ⟨A, 2, none⟩ = some (.int .u8 st.p.by_) := by rw [cell_of h.at_]; rfl
  clear h
  go_enter Try.func12, Try.ntmps12
  go_wp2
  exact bodyPost_ret (v := .agg (balArr st.p)) (results_cell_row Try.results12 _ _ w.heap.size _ _ _ _ rfl (alloc_new w _) Try.underlying42 rfl (by kernel_rfl)) rfl ⟨rfl, below_alloc _ _⟩
theorem acceptor_Promised_nil (w : World) :
    Calls Try.prog 12 #[.pointer none] w fun e w' => e = .returned (.agg (balArr Ballot.zero)) ∧ Below w.heap.size w w' := by
  go_enter Try.func12, Try.ntmps12
  go_wp2
  exact bodyPost_ret (v := .agg (balArr Ballot.zero)) (results_cell_row Try.results12 _ _ w.heap.size _ _ _ _ rfl (alloc_new w _) Try.underlying42 rfl (by kernel_rfl)) rfl ⟨rfl, below_alloc _ _⟩

theorem slices_Clone_members (l : List Member) (hl : l.length ≤ 1000000) (v : Value) (w : World) (hv : Rd w 3 v l.length (memCells l)) :
    Calls Try.prog 44 #[v] w (RetOwn 61 3 l.length (memCells l) w) := by
  have hq := fun (w : World) (p : Option Addr) (n c : Nat) => Lib.run_eql_slice_nil (P := Try.prog) w 29 61 p n c 0 0 Try.underlying29
  obtain ⟨p, c, rfl⟩ := hv.form
  cases p with
  | none =>
    rcases hv.2 with ⟨h, h0⟩ | ⟨g, o, c', h, _⟩
    · have hl0 : l = [] := List.eq_nil_of_length_eq_zero h0
      subst hl0
      go_enter Try.func44, Try.ntmps44
      go_wp2
      go_ret
      exact ⟨_, rfl, Own.nil _ _ _, Fresh.nil _, Below.refl _ _⟩
    · cases h
  | some a =>
    have hown : ∀ (W : World) (g : Nat), g = W.heap.size → Own (W.alloc (.cells #[] 61)) 61 3 (.slice (some ⟨g, 0, none⟩) 0 0) 0 [] := fun W g hg => Own.lit W #[] _ 3 0 g hg rfl (by decide)
    have Hown := hid hown
    have Hv := hid hv
    clear hown hv
    go_enter Try.func44, Try.ntmps44
    go_wp2_with (at_builtin; refine wpList_app rfl _ _ rfl sl_members _ _ _ rfl (Hown.out _ _ rfl) _ _ _ rfl (Hv.out.below (below_alloc _ _)) (memCells_one _) (by unfold maxLen; omega) (by omega) ?_; intro v2 w2 hap)
    go_ret
    have hf : Fresh w.heap.size (.slice (some ⟨w.heap.size, 0, none⟩) 0 0) := Fresh.at_ _ _ _ _ _ (Nat.le_refl _)
    have ho := hap.own
    rw [Nat.zero_add, List.nil_append] at ho
    exact ⟨v2, rfl, ho, hap.fresh hf (by simp), (below_alloc _ _).trans (hap.below hf (by simp))⟩

/-- The base is handed back. -/
def RetBase (low : Int) (x : View) (w : World) (e : Ending) (w' : World) : Prop :=
  ∃ s, e = .returned (.tuple #[.int .u32 low, .agg (viewCells x s)]) ∧ Own w' 61 3 s x.members.length (memCells x.members) ∧ Fresh w.heap.size s ∧ Below w.heap.size w w'
theorem results_tmp_cell {P : Program} {fn : Func} {a p : Tmp} {ty : TypeId} (h : fn.results = #[.tmp a, .cell p ty]) (tmps : Array Value) (w : World) (g : Nat) (t : TypeId) (cs : Array Value) (fr : Nat × Nat) (d : TypeDesc)
    (hp : tmps.getD p undef = .pointer (some ⟨g, 0, none⟩)) (hg : w.heap[g]? = some (.cells cs t fr))
    (hu : P.underlying ty = some d) (hd : (match d with | .struct _ | .array _ _ => true | _ => false) = true) (hi : (P.info? ty).map (·.size) = some cs.size) :
    (results fn tmps).run P w = .ok (.tuple #[tmps.getD a undef, .agg cs]) w := by
  have hp' : tmps[p]?.getD undef = .pointer (some ⟨g, 0, none⟩) := by simpa using hp
  simp [results, h, hp', asAddr, run_loadVar_row w g t ty cs fr d hg hu hd hi]

theorem base_at {W : World} {b : Nat} {e : Int} {x : View} {s s2 : Value} (hA : W.heap[b]? = some (.cells (halfCells e s) 32 (0, 0))) :
    (((((((((((W.setCell ⟨b, 0, none⟩ (.int .u32 x.epoch)).setCell ⟨b, 1, none⟩ (s2)).setCell ⟨b, 2, none⟩ (.int .u8 (x.l 0))).setCell ⟨b, 3, none⟩ (.int .u8 (x.l 1))).setCell ⟨b, 4, none⟩ (.int .u8 (x.l 2))).setCell ⟨b, 5, none⟩ (.int .u8 (x.l 3))).setCell ⟨b, 6, none⟩ (.int .u8 (x.l 4))).setCell ⟨b, 7, none⟩ (.int .u8 (x.l 5))).setCell ⟨b, 8, none⟩ (.int .u8 (x.l 6))).setCell ⟨b, 9, none⟩ (.int .u8 (x.l 7))).drew).heap[b]? = some (.cells (viewCells x s2) 32 (0, 0)) := by
  have h0 := setCell_at (i := 0) hA (.int .u32 x.epoch) (c' := #[.int .u32 x.epoch, s, .int .u8 0, .int .u8 0, .int .u8 0, .int .u8 0, .int .u8 0, .int .u8 0, .int .u8 0, .int .u8 0]) rfl
  have h1 := setCell_at (i := 1) h0 (s2) (c' := #[.int .u32 x.epoch, s2, .int .u8 0, .int .u8 0, .int .u8 0, .int .u8 0, .int .u8 0, .int .u8 0, .int .u8 0, .int .u8 0]) rfl
  have h2 := setCell_at (i := 2) h1 (.int .u8 (x.l 0)) (c' := #[.int .u32 x.epoch, s2, .int .u8 (x.l 0), .int .u8 0, .int .u8 0, .int .u8 0, .int .u8 0, .int .u8 0, .int .u8 0, .int .u8 0]) rfl
  have h3 := setCell_at (i := 3) h2 (.int .u8 (x.l 1)) (c' := #[.int .u32 x.epoch, s2, .int .u8 (x.l 0), .int .u8 (x.l 1), .int .u8 0, .int .u8 0, .int .u8 0, .int .u8 0, .int .u8 0, .int .u8 0]) rfl
  have h4 := setCell_at (i := 4) h3 (.int .u8 (x.l 2)) (c' := #[.int .u32 x.epoch, s2, .int .u8 (x.l 0), .int .u8 (x.l 1), .int .u8 (x.l 2), .int .u8 0, .int .u8 0, .int .u8 0, .int .u8 0, .int .u8 0]) rfl
  have h5 := setCell_at (i := 5) h4 (.int .u8 (x.l 3)) (c' := #[.int .u32 x.epoch, s2, .int .u8 (x.l 0), .int .u8 (x.l 1), .int .u8 (x.l 2), .int .u8 (x.l 3), .int .u8 0, .int .u8 0, .int .u8 0, .int .u8 0]) rfl
  have h6 := setCell_at (i := 6) h5 (.int .u8 (x.l 4)) (c' := #[.int .u32 x.epoch, s2, .int .u8 (x.l 0), .int .u8 (x.l 1), .int .u8 (x.l 2), .int .u8 (x.l 3), .int .u8 (x.l 4), .int .u8 0, .int .u8 0, .int .u8 0]) rfl
  have h7 := setCell_at (i := 7) h6 (.int .u8 (x.l 5)) (c' := #[.int .u32 x.epoch, s2, .int .u8 (x.l 0), .int .u8 (x.l 1), .int .u8 (x.l 2), .int .u8 (x.l 3), .int .u8 (x.l 4), .int .u8 (x.l 5), .int .u8 0, .int .u8 0]) rfl
  have h8 := setCell_at (i := 8) h7 (.int .u8 (x.l 6)) (c' := #[.int .u32 x.epoch, s2, .int .u8 (x.l 0), .int .u8 (x.l 1), .int .u8 (x.l 2), .int .u8 (x.l 3), .int .u8 (x.l 4), .int .u8 (x.l 5), .int .u8 (x.l 6), .int .u8 0]) rfl
  have h9 := setCell_at (i := 9) h8 (.int .u8 (x.l 7)) (c' := #[.int .u32 x.epoch, s2, .int .u8 (x.l 0), .int .u8 (x.l 1), .int .u8 (x.l 2), .int .u8 (x.l 3), .int .u8 (x.l 4), .int .u8 (x.l 5), .int .u8 (x.l 6), .int .u8 (x.l 7)]) rfl
  rw [drew_heap]
  exact h9
theorem base_kp (W : World) (b : Nat) (x : View) (s2 : Value) : Kp (fun k => k = b) W (((((((((((W.setCell ⟨b, 0, none⟩ (.int .u32 x.epoch)).setCell ⟨b, 1, none⟩ (s2)).setCell ⟨b, 2, none⟩ (.int .u8 (x.l 0))).setCell ⟨b, 3, none⟩ (.int .u8 (x.l 1))).setCell ⟨b, 4, none⟩ (.int .u8 (x.l 2))).setCell ⟨b, 5, none⟩ (.int .u8 (x.l 3))).setCell ⟨b, 6, none⟩ (.int .u8 (x.l 4))).setCell ⟨b, 7, none⟩ (.int .u8 (x.l 5))).setCell ⟨b, 8, none⟩ (.int .u8 (x.l 6))).setCell ⟨b, 9, none⟩ (.int .u8 (x.l 7))).drew) :=
  (((((((((((Kp.refl (fun k => k = b) W).trans (only_set _ b 0 _)).trans (only_set _ b 1 _)).trans (only_set _ b 2 _)).trans (only_set _ b 3 _)).trans (only_set _ b 4 _)).trans (only_set _ b 5 _)).trans (only_set _ b 6 _)).trans (only_set _ b 7 _)).trans (only_set _ b 8 _)).trans (only_set _ b 9 _)).drew

set_option maxHeartbeats 2000000 in
theorem acceptor_Base (A j : Nat) (st : St) (s : Value) (m : Nat) (w : World) (h : AccAt w A j st s m) (hn : st.base.members.length ≤ 1000) :
    Calls Try.prog 14 #[rptr A] w (RetBase st.low st.base w) := by
  have hlt := h.lt
  obtain ⟨p, cap, rfl⟩ := h.rd.form
  have H := hid h
  have hsl : ∀ i v, (accArr j st.p st.low st.base (.slice p st.base.members.length cap) m)[i]? = some v → w.cell? ⟨A, i, none⟩ = some v := fun i v hv => by rw [cell_of h.at_]; exact hv
  have c3 := hsl 3 _ rfl
  have c4 := hsl 4 _ rfl
  have c5 := hsl 5 _ rfl
  have c6 := hsl 6 _ rfl
  have c7 := hsl 7 _ rfl
  have c8 := hsl 8 _ rfl
  have c9 := hsl 9 _ rfl
  have c10 := hsl 10 _ rfl
  have c11 := hsl 11 _ rfl
  have c12 := hsl 12 _ rfl
  have c13 := hsl 13 _ rfl
  have HR := hid h.rd
  generalize st.base = x at *
  generalize st.low = low at *
  clear h hsl
  go_enter Try.func14, Try.ntmps14
  go_wp2_with fail
  refine (slices_Clone_members x.members (by omega) _ _ (HR.out.below (pu_alloc (pu_alloc (pu_refl w) _) _))).mono ?_
  rintro e w1 ⟨s1, rfl, ho1, hf1, hb1⟩
  obtain ⟨p4, cap4, rfl⟩ := ho1.form
  have g1 : w1.heap[w.heap.size + 1]? = some (.cells (viewCells x (.slice p x.members.length cap)) 32 (0, 0)) := (hb1.block _ (by simp)).trans (by have := alloc_new (w.alloc (.cells (halfCells 0 (.slice none 0 0)) 32)) (.cells (viewCells x (.slice p x.members.length cap)) 32); simpa using this)
  have g0 : w1.heap[w.heap.size]? = some (.cells (halfCells 0 (.slice none 0 0)) 32 (0, 0)) := (hb1.block _ (by simp; omega)).trans (alloc_old (alloc_new w _))
  have hbw : Below w.heap.size w w1 := pu_trans (pu_alloc (pu_alloc (pu_refl w) _) _) hb1
  have n1 : ¬ (Value.slice p4 x.members.length cap4).ownBlock = some (w.heap.size + 1) := fun e => by have := hf1 _ e; simp at this; omega
  have n0 : ¬ (Value.slice p4 x.members.length cap4).ownBlock = some w.heap.size := fun e => by have := hf1 _ e; simp at this; omega
  have d1 : w1.cell? ⟨w.heap.size + 1, 1, none⟩ = some (.slice p x.members.length cap) := by rw [cell_of g1]; rfl
  have q1 := free_of g1 1
  go_wp2_with fail
  generalize hWw : World.setCell w1 _ _ = W
  have hg1 : W.heap[w.heap.size + 1]? = some (.cells (viewCells x (.slice p4 x.members.length cap4)) 32 (0, 0)) := by rw [← hWw]; exact setCell_at g1 _ rfl
  have hg0 : W.heap[w.heap.size]? = some (.cells (halfCells 0 (.slice none 0 0)) 32 (0, 0)) := by rw [← hWw]; exact setCell_other g0 (by omega) _
  have hbW : Below w.heap.size w W := by rw [← hWw]; exact pu_set hbw (by simp) _
  have hoW : Own W 61 3 (.slice p4 x.members.length cap4) x.members.length (memCells x.members) := by rw [← hWw]; exact ho1.kept (only_set w1 (w.heap.size + 1) 1 _) (fun k hk e => n1 (by rw [← e]; exact hk))
  have k3 : W.cell? ⟨A, 3, none⟩ = some (.int .u32 low) := cell_keep hbW c3
  have hz : w.heap.size + 1 < W.heap.size := lt_of_block hg1
  have e0 : W.cell? ⟨w.heap.size + 1, 0, none⟩ = some (.int .u32 x.epoch) := by rw [cell_of hg1]; rfl
  have e1 : W.cell? ⟨w.heap.size + 1, 1, none⟩ = some ((.slice p4 x.members.length cap4)) := by rw [cell_of hg1]; rfl
  have e2 : W.cell? ⟨w.heap.size + 1, 2, none⟩ = some (.int .u8 (x.l 0)) := by rw [cell_of hg1]; rfl
  have e3 : W.cell? ⟨w.heap.size + 1, 3, none⟩ = some (.int .u8 (x.l 1)) := by rw [cell_of hg1]; rfl
  have e4 : W.cell? ⟨w.heap.size + 1, 4, none⟩ = some (.int .u8 (x.l 2)) := by rw [cell_of hg1]; rfl
  have e5 : W.cell? ⟨w.heap.size + 1, 5, none⟩ = some (.int .u8 (x.l 3)) := by rw [cell_of hg1]; rfl
  have e6 : W.cell? ⟨w.heap.size + 1, 6, none⟩ = some (.int .u8 (x.l 4)) := by rw [cell_of hg1]; rfl
  have e7 : W.cell? ⟨w.heap.size + 1, 7, none⟩ = some (.int .u8 (x.l 5)) := by rw [cell_of hg1]; rfl
  have e8 : W.cell? ⟨w.heap.size + 1, 8, none⟩ = some (.int .u8 (x.l 6)) := by rw [cell_of hg1]; rfl
  have e9 : W.cell? ⟨w.heap.size + 1, 9, none⟩ = some (.int .u8 (x.l 7)) := by rw [cell_of hg1]; rfl
  have z0 : W.cell? ⟨w.heap.size, 0, none⟩ = some ((halfCells 0 (.slice none 0 0))[0]) := by rw [cell_of hg0]; rfl
  have q0 := free_of hg0 0
  have z1 : W.cell? ⟨w.heap.size, 1, none⟩ = some ((halfCells 0 (.slice none 0 0))[1]) := by rw [cell_of hg0]; rfl
  have q1 := free_of hg0 1
  have z2 : W.cell? ⟨w.heap.size, 2, none⟩ = some ((halfCells 0 (.slice none 0 0))[2]) := by rw [cell_of hg0]; rfl
  have q2 := free_of hg0 2
  have z3 : W.cell? ⟨w.heap.size, 3, none⟩ = some ((halfCells 0 (.slice none 0 0))[3]) := by rw [cell_of hg0]; rfl
  have q3 := free_of hg0 3
  have z4 : W.cell? ⟨w.heap.size, 4, none⟩ = some ((halfCells 0 (.slice none 0 0))[4]) := by rw [cell_of hg0]; rfl
  have q4 := free_of hg0 4
  have z5 : W.cell? ⟨w.heap.size, 5, none⟩ = some ((halfCells 0 (.slice none 0 0))[5]) := by rw [cell_of hg0]; rfl
  have q5 := free_of hg0 5
  have z6 : W.cell? ⟨w.heap.size, 6, none⟩ = some ((halfCells 0 (.slice none 0 0))[6]) := by rw [cell_of hg0]; rfl
  have q6 := free_of hg0 6
  have z7 : W.cell? ⟨w.heap.size, 7, none⟩ = some ((halfCells 0 (.slice none 0 0))[7]) := by rw [cell_of hg0]; rfl
  have q7 := free_of hg0 7
  have z8 : W.cell? ⟨w.heap.size, 8, none⟩ = some ((halfCells 0 (.slice none 0 0))[8]) := by rw [cell_of hg0]; rfl
  have q8 := free_of hg0 8
  have z9 : W.cell? ⟨w.heap.size, 9, none⟩ = some ((halfCells 0 (.slice none 0 0))[9]) := by rw [cell_of hg0]; rfl
  have q9 := free_of hg0 9
  have hA0 : ¬ A = w.heap.size := by omega
  have hA1 : ¬ w.heap.size = A := by omega
  clear c3 c4 c5 c6 c7 c8 c9 c10 c11 c12 c13 d1 g0 g1
  go_region_held3 (fun w' => w'.cell? ⟨A, 3, none⟩ = some (.int .u32 low) ∧ w'.cell? ⟨w.heap.size + 1, 0, none⟩ = some (.int .u32 x.epoch) ∧ w'.cell? ⟨w.heap.size + 1, 1, none⟩ = some ((.slice p4 x.members.length cap4)) ∧ w'.cell? ⟨w.heap.size + 1, 2, none⟩ = some (.int .u8 (x.l 0)) ∧ w'.cell? ⟨w.heap.size + 1, 3, none⟩ = some (.int .u8 (x.l 1)) ∧ w'.cell? ⟨w.heap.size + 1, 4, none⟩ = some (.int .u8 (x.l 2)) ∧ w'.cell? ⟨w.heap.size + 1, 5, none⟩ = some (.int .u8 (x.l 3)) ∧ w'.cell? ⟨w.heap.size + 1, 6, none⟩ = some (.int .u8 (x.l 4)) ∧ w'.cell? ⟨w.heap.size + 1, 7, none⟩ = some (.int .u8 (x.l 5)) ∧ w'.cell? ⟨w.heap.size + 1, 8, none⟩ = some (.int .u8 (x.l 6)) ∧ w'.cell? ⟨w.heap.size + 1, 9, none⟩ = some (.int .u8 (x.l 7))) (go_keep) (fail)
  rename_i hHeld; clear hHeld
  generalize hYw : World.drew _ = Y
  have hY : Y.heap[w.heap.size]? = some (.cells (viewCells x (.slice p4 x.members.length cap4)) 32 (0, 0)) := by rw [← hYw]; exact base_at hg0
  have hkY : Kp (fun k => k = w.heap.size) W Y := by rw [← hYw]; exact base_kp _ _ _ _
  go_wp2_with fail
  refine bodyPost_ret (v := .tuple #[.int .u32 low, .agg (viewCells x (.slice p4 x.members.length cap4))]) (results_tmp_cell Try.results14 _ _ w.heap.size _ _ _ _ rfl hY Try.underlying32 rfl (by kernel_rfl)) rfl ⟨_, rfl, ?_, ?_, read_below hbW hkY⟩
  · exact hoW.kept hkY (fun k hk e => n0 (by rw [← e]; exact hk))
  · exact fun k hk => by have := hf1 k hk; simp at this; omega

/-- No acceptor: an empty base. -/
theorem acceptor_Base_nil (w : World) :
    Calls Try.prog 14 #[.pointer none] w fun e w' => e = .returned (.tuple #[.int .u32 0, .agg (halfCells 0 (.slice none 0 0))]) ∧ Below w.heap.size w w' := by
  go_enter Try.func14, Try.ntmps14
  go_wp2
  refine bodyPost_ret (v := .tuple #[.int .u32 0, .agg (halfCells 0 (.slice none 0 0))]) (results_tmp_cell Try.results14 _ _ w.heap.size _ _ _ _ rfl (alloc_new w _) Try.underlying32 rfl (by kernel_rfl)) rfl ⟨rfl, below_alloc _ _⟩
end Go.Proofs.Ytlpnomejpaoeaaa
