/- The document's acceptor: Truncate, Prepare. -/
import Derived.Test.YtlpnomejpaoeaaaRef3
import Derived.Test.YtlpnomejpaoeaaaCut
namespace Go.Proofs.Ytlpnomejpaoeaaa
set_option linter.unusedSimpArgs false
set_option linter.unusedVariables false
open Go.RowKit
set_option maxHeartbeats 400000
set_option maxRecDepth 20000

theorem st_racc : StT Try.prog 68 5 := StT.mk' Try.underlying68 rfl (by kernel_rfl)
theorem racc_one (r : RAcc) (p : Option Addr) (n c : Nat) : ∀ v ∈ (raccArr r (.slice p n c)).toList, v.oneCell' = true := by
  intro v hv
  simp only [raccArr, List.mem_cons, List.not_mem_nil, or_false] at hv
  rcases hv with rfl | rfl | rfl | rfl | rfl <;> rfl
abbrev set5 (W : World) (b : Nat) (a0 a1 a2 a3 a4 : Value) : World := ((((W.setCell ⟨b, 0, none⟩ a0).setCell ⟨b, 1, none⟩ a1).setCell ⟨b, 2, none⟩ a2).setCell ⟨b, 3, none⟩ a3).setCell ⟨b, 4, none⟩ a4
theorem set5_at {W : World} {b : Nat} {t : TypeId} {x0 x1 x2 x3 x4 : Value} (h : W.heap[b]? = some (.cells #[x0, x1, x2, x3, x4] t (0, 0))) (a0 a1 a2 a3 a4 : Value) :
    (set5 W b a0 a1 a2 a3 a4).heap[b]? = some (.cells #[a0, a1, a2, a3, a4] t (0, 0)) := by
  have h0 := setCell_at (i := 0) h a0 (c' := #[a0, x1, x2, x3, x4]) rfl
  have h1 := setCell_at (i := 1) h0 a1 (c' := #[a0, a1, x2, x3, x4]) rfl
  have h2 := setCell_at (i := 2) h1 a2 (c' := #[a0, a1, a2, x3, x4]) rfl
  have h3 := setCell_at (i := 3) h2 a3 (c' := #[a0, a1, a2, a3, x4]) rfl
  have h4 := setCell_at (i := 4) h3 a4 (c' := #[a0, a1, a2, a3, a4]) rfl
  exact h4
theorem set5_kp (W : World) (b : Nat) (a0 a1 a2 a3 a4 : Value) : Kp (fun k => k = b) W (set5 W b a0 a1 a2 a3 a4) :=
  ((((((Kp.refl (fun k => k = b) W).trans (only_set _ b 0 _)).trans (only_set _ b 1 _)).trans (only_set _ b 2 _)).trans (only_set _ b 3 _)).trans (only_set _ b 4 _))

theorem set5_cell (W : World) (b b' i : Nat) (a0 a1 a2 a3 a4 : Value) (h : ¬ b' = b) : (((((W.setCell ⟨b, 0, none⟩ a0).setCell ⟨b, 1, none⟩ a1).setCell ⟨b, 2, none⟩ a2).setCell ⟨b, 3, none⟩ a3).setCell ⟨b, 4, none⟩ a4).cell? ⟨b', i, none⟩ = W.cell? ⟨b', i, none⟩ :=
  World.cell?_of_block (by
    rw [Below.heap_setCell _ _ _ _ h, Below.heap_setCell _ _ _ _ h, Below.heap_setCell _ _ _ _ h, Below.heap_setCell _ _ _ _ h, Below.heap_setCell _ _ _ _ h])
abbrev RAcc.zero : RAcc := ⟨⟨0, 0⟩, 0, []⟩
/-- The document's acceptor is handed back. -/
def RetAcc (r : RAcc) (v0 : Value) (w : World) (e : Ending) (w' : World) : Prop :=
  ∃ v, e = .returned (.agg (raccArr r v)) ∧ Rd w' 5 v r.ents.length (rentCells r.ents) ∧ (∀ k, v.ownBlock = some k → v0.ownBlock = some k ∨ w.heap.size ≤ k) ∧ Below w.heap.size w w'

def RAcc.truncate (r : RAcc) (low : Int) : RAcc := if r.low < low then { r with low := low, ents := r.from_ low } else r

theorem below_kp {S : Nat → Prop} {w w1 w2 : World} (hb : Below w.heap.size w w1) (hk : Kp S w1 w2) (hS : ∀ k, S k → w.heap.size ≤ k) : Below w.heap.size w w2 :=
  ⟨hk.os.trans hb.os, hk.tape.trans hb.tape, hk.output.trans hb.output, Nat.le_trans hb.size hk.size, fun i hi => (hk.block i (Nat.lt_of_lt_of_le hi hb.size) (fun e => by have := hS i e; omega)).trans (hb.block i hi)⟩

set_option maxHeartbeats 1000000 in
theorem ref_Truncate (r : RAcc) (low : Int) (hn : r.ents.length ≤ 1000) (v : Value) (w : World) (hv : Rd w 5 v r.ents.length (rentCells r.ents)) :
    Calls Try.prog 26 #[.agg (raccArr r v), .int .u32 low] w (RetAcc (r.truncate low) v w) := by
  obtain ⟨p, cap, rfl⟩ := hv.form
  have Hv := hid hv
  clear hv
  have g0 : ((w.alloc (.cells (raccArr r (.slice p r.ents.length cap)) 68)).alloc (.cells (raccArr .zero (.slice none 0 0)) 68)).heap[w.heap.size]? = some (.cells (raccArr r (.slice p r.ents.length cap)) 68 (0, 0)) := alloc_old (alloc_new w _)
  have g1 : ((w.alloc (.cells (raccArr r (.slice p r.ents.length cap)) 68)).alloc (.cells (raccArr .zero (.slice none 0 0)) 68)).heap[w.heap.size + 1]? = some (.cells (raccArr .zero (.slice none 0 0)) 68 (0, 0)) := by
    have := alloc_new (w.alloc (.cells (raccArr r (.slice p r.ents.length cap)) 68)) (.cells (raccArr .zero (.slice none 0 0)) 68)
    simpa using this
  have hb : Below w.heap.size w ((w.alloc (.cells (raccArr r (.slice p r.ents.length cap)) 68)).alloc (.cells (raccArr .zero (.slice none 0 0)) 68)) := pu_alloc (pu_alloc (pu_refl w) _) _
  have G0 := hid g0
  have G1 := hid g1
  have HB := hid hb
  clear g0 g1 hb
  by_cases hlt : r.low < low
  · have hv : r.truncate low = { r with low := low, ents := r.from_ low } := by simp [RAcc.truncate, hlt]
    rw [hv]
    clear hv
    go_enter Try.func26, Try.ntmps26
    go_wp2_with fail
    refine (ref_From { r with low := low } low hn (.slice p r.ents.length cap) _ (Hv.out.below (pu_alloc (pu_alloc (pu_refl w) _) _))).mono ?_
    rintro e w1 ⟨v1, rfl, ho1, hf1, hb1⟩
    have hb : Below w.heap.size w w1 := pu_trans (pu_alloc (pu_alloc (pu_refl w) _) _) hb1
    have g0 : w1.heap[w.heap.size]? = some (.cells (raccArr { r with low := low } (.slice p r.ents.length cap)) 68 (0, 0)) := (hb1.block _ (by simp; omega)).trans (alloc_old (alloc_new w _))
    have g1 : w1.heap[w.heap.size + 1]? = some (.cells (raccArr .zero (.slice none 0 0)) 68 (0, 0)) := (hb1.block _ (by simp)).trans (by
      have := alloc_new (w.alloc (.cells (raccArr { r with low := low } (.slice p r.ents.length cap)) 68)) (.cells (raccArr .zero (.slice none 0 0)) 68)
      simpa using this)
    have HO := hid ho1
    have HF := hid hf1
    have HB1 := hid hb
    have f4 := free_of g0 4
    have k4 : w1.cell? ⟨w.heap.size, 4, none⟩ = some (.slice p r.ents.length cap) := by rw [cell_of g0]; rfl
    obtain ⟨p1, c1, rfl⟩ := HO.out.form
    have h0 : (w1.setCell ⟨w.heap.size, 4, none⟩ (.slice p1 (r.from_ low).length c1)).heap[w.heap.size]? = some (.cells (raccArr { r with low := low, ents := r.from_ low } (.slice p1 (r.from_ low).length c1)) 68 (0, 0)) := setCell_at g0 _ rfl
    have h1 : (w1.setCell ⟨w.heap.size, 4, none⟩ (.slice p1 (r.from_ low).length c1)).heap[w.heap.size + 1]? = some (.cells (raccArr .zero (.slice none 0 0)) 68 (0, 0)) := setCell_other g1 (by omega) _
    have hone := hid (racc_one { r with low := low, ents := r.from_ low } p1 (r.from_ low).length c1)
    have H0 := hid h0
    have H1 := hid h1
    clear ho1 hf1 hb hb1 h0 h1 g0 g1
    go_wp2_with (first | (refine wpList_ld rfl _ rfl st_racc w.heap.size 0 (raccArr { r with low := low, ents := r.from_ low } (.slice p1 (r.from_ low).length c1)).toList rfl rfl (row_cells H0.out) ?_) | (refine wpList_st rfl _ _ rfl st_racc (w.heap.size + 1) 0 (raccArr { r with low := low, ents := r.from_ low } (.slice p1 (r.from_ low).length c1)) rfl rfl rfl hone.out _ _ H1.out (Nat.le_refl _) ?_; intro W4 h4 hk4))
    have h4' : W4.heap[w.heap.size + 1]? = some (.cells (raccArr { r with low := low, ents := r.from_ low } (.slice p1 (r.from_ low).length c1)) 68 (0, 0)) := h4
    refine bodyPost_ret (v := .agg (raccArr { r with low := low, ents := r.from_ low } (.slice p1 (r.from_ low).length c1))) (results_cell_row Try.results26 _ _ (w.heap.size + 1) _ _ _ _ rfl h4' Try.underlying68 rfl (by kernel_rfl)) rfl ⟨_, rfl, ?_, ?_, ?_⟩
    · refine (HO.out.rd.kept (only_set w1 w.heap.size 4 _) (fun k hk e => ?_)).kept hk4 (fun k hk e => ?_)
      · have := HF.out k hk; simp at this; omega
      · have := HF.out k hk; simp at this; omega
    · intro k hk
      have := HF.out k hk; simp at this; exact .inr (by omega)
    · have h2 : Kp (fun k => k = w.heap.size ∨ k = w.heap.size + 1) w1 W4 := ((only_set w1 w.heap.size 4 _).mono (fun k _ e => .inl e)).then hk4 (fun k _ e => .inr e)
      exact below_kp HB1.out h2 (fun k e => by rcases e with e | e <;> omega)
  · have hv : r.truncate low = r := by simp [RAcc.truncate, hlt]
    rw [hv]
    clear hv
    have hone := hid (racc_one r p r.ents.length cap)
    go_enter Try.func26, Try.ntmps26
    go_wp2_with fail
    exact bodyPost_ret (v := .agg (raccArr r (.slice p r.ents.length cap))) (results_cell_row Try.results26 _ _ (w.heap.size + 1) _ _ _ _ rfl (by
      have := alloc_new (w.alloc (.cells (raccArr r (.slice p r.ents.length cap)) 68)) (.cells (raccArr r (.slice p r.ents.length cap)) 68)
      simpa using this) Try.underlying68 rfl (by kernel_rfl)) rfl ⟨_, rfl, Hv.out.below (pu_alloc (pu_alloc (pu_refl w) _) _), fun k hk => .inl hk, pu_alloc (pu_alloc (pu_refl w) _) _⟩

end Go.Proofs.Ytlpnomejpaoeaaa
