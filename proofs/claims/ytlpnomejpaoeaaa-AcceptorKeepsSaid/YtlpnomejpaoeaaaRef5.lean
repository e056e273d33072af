/- The document's acceptor: Prepare. -/
import Derived.Test.YtlpnomejpaoeaaaRef4
namespace Go.Proofs.Ytlpnomejpaoeaaa
set_option linter.unusedSimpArgs false
set_option linter.unusedVariables false
open Go.RowKit
set_option maxHeartbeats 400000
set_option maxRecDepth 20000

theorem results_cell_tmp2 {P : Program} {fn : Func} {a b p : Tmp} {ty : TypeId} (h : fn.results = #[.cell p ty, .tmp a, .tmp b]) (tmps : Array Value) (w : World) (g : Nat) (t : TypeId) (cs : Array Value) (fr : Nat × Nat) (d : TypeDesc)
    (hp : tmps.getD p undef = .pointer (some ⟨g, 0, none⟩)) (hg : w.heap[g]? = some (.cells cs t fr))
    (hu : P.underlying ty = some d) (hd : (match d with | .struct _ | .array _ _ => true | _ => false) = true) (hi : (P.info? ty).map (·.size) = some cs.size) :
    (results fn tmps).run P w = .ok (.tuple #[.agg cs, tmps.getD a undef, tmps.getD b undef]) w := by
  have hp' : tmps[p]?.getD undef = .pointer (some ⟨g, 0, none⟩) := by simpa using hp
  simp [results, h, hp', asAddr, run_loadVar_row w g t ty cs fr d hg hu hd hi]

def RAcc.prepErr (r : RAcc) (b : Ballot) (f : Int) : Int := if f < r.low then 9 else if b.below r.p then 8 else 0
def RAcc.prepare (r : RAcc) (b : Ballot) (f : Int) : RAcc := if r.prepErr b f = 0 then { r with p := b } else r
def RAcc.prepList (r : RAcc) (b : Ballot) (f : Int) : List REnt := if r.prepErr b f = 0 then r.from_ f else []

/-- The document's acceptor is handed back, with entries and an error's number. -/
def RetPrep (r : RAcc) (l : List REnt) (n : Int) (v0 : Value) (w : World) (e : Ending) (w' : World) : Prop :=
  ∃ v u, e = .returned (.tuple #[.agg (raccArr r v), u, .int .i64 n]) ∧ Rd w' 5 v r.ents.length (rentCells r.ents) ∧ (∀ k, v.ownBlock = some k → v0.ownBlock = some k ∨ w.heap.size ≤ k) ∧
    Rd w' 5 u l.length (rentCells l) ∧ Below w.heap.size w w'
theorem cell_at {w : World} {b : Nat} {c : Array Value} {t : TypeId} {f : Nat × Nat} (h : w.heap[b]? = some (.cells c t f)) (i : Nat) (v : Value) (hv : c[i]? = some v) : w.cell? ⟨b, i, none⟩ = some v := by rw [cell_of h]; exact hv
theorem st_stamp : StT Try.prog 65 3 := StT.mk' Try.underlying65 rfl (by kernel_rfl)

set_option maxHeartbeats 1000000 in
theorem ref_Prepare (r : RAcc) (hp : r.p.fits) (b : Ballot) (hb : b.fits) (f : Int) (hn : r.ents.length ≤ 1000) (v : Value) (w : World) (hv : Rd w 5 v r.ents.length (rentCells r.ents)) :
    Calls Try.prog 24 #[.agg (raccArr r v), .agg (stampArr b), .int .u32 f] w (RetPrep (r.prepare b f) (r.prepList b f) (r.prepErr b f) v w) := by
  obtain ⟨p, cap, rfl⟩ := hv.form
  have Hv := hid hv
  clear hv
  generalize hW0 : ((w.alloc (.cells (raccArr r (.slice p r.ents.length cap)) 68)).alloc (.cells (stampArr b) 65)).alloc (.cells (raccArr .zero (.slice none 0 0)) 68) = W0
  have g0 : W0.heap[w.heap.size]? = some (.cells (raccArr r (.slice p r.ents.length cap)) 68 (0, 0)) := by rw [← hW0]; exact alloc_old (alloc_old (alloc_new w _))
  have g1 : W0.heap[w.heap.size + 1]? = some (.cells (stampArr b) 65 (0, 0)) := by
    have := alloc_new (w.alloc (.cells (raccArr r (.slice p r.ents.length cap)) 68)) (.cells (stampArr b) 65)
    rw [← hW0]
    exact alloc_old (by simpa using this)
  have g2 : W0.heap[w.heap.size + 2]? = some (.cells (raccArr .zero (.slice none 0 0)) 68 (0, 0)) := by
    have := alloc_new ((w.alloc (.cells (raccArr r (.slice p r.ents.length cap)) 68)).alloc (.cells (stampArr b) 65)) (.cells (raccArr .zero (.slice none 0 0)) 68)
    rw [← hW0]
    simpa using this
  have hb0 : Below w.heap.size w W0 := by rw [← hW0]; exact pu_alloc (pu_alloc (pu_alloc (pu_refl w) _) _) _
  have HW := hid hW0
  have HB := hid hb0
  have G0 := hid g0
  have G1 := hid g1
  have G2 := hid g2
  clear g0 g1 g2 hb0 hW0
  have hone := hid (racc_one r p r.ents.length cap)
  by_cases h1 : f < r.low
  · have he : r.prepErr b f = 9 := by simp [RAcc.prepErr, h1]
    have hr : r.prepare b f = r := by simp [RAcc.prepare, he]
    have hl : r.prepList b f = [] := by simp [RAcc.prepList, he]
    rw [he, hr, hl]
    clear he hr hl
    go_enter Try.func24, Try.ntmps24
    go_wp2_with fail
    refine bodyPost_ret (v := .tuple #[.agg (raccArr r (.slice p r.ents.length cap)), .slice none 0 0, .int .i64 9]) (results_cell_tmp2 Try.results24 _ _ (w.heap.size + 1 + 1) _ _ _ _ rfl (by
      have := alloc_new ((w.alloc (.cells (raccArr r (.slice p r.ents.length cap)) 68)).alloc (.cells (stampArr b) 65)) (.cells (raccArr r (.slice p r.ents.length cap)) 68)
      simpa using this) Try.underlying68 rfl (by kernel_rfl)) rfl ⟨_, _, rfl, Hv.out.below (pu_alloc (pu_alloc (pu_alloc (pu_refl w) _) _) _), fun k hk => .inl hk, Rd.nil _ _, pu_alloc (pu_alloc (pu_alloc (pu_refl w) _) _) _⟩
  · by_cases h2 : b.below r.p = true
    · have he : r.prepErr b f = 8 := by simp [RAcc.prepErr, h1, h2]
      have hr : r.prepare b f = r := by simp [RAcc.prepare, he]
      have hl : r.prepList b f = [] := by simp [RAcc.prepList, he]
      rw [he, hr, hl]
      clear he hr hl
      go_enter Try.func24, Try.ntmps24
      go_wp2_with fail
      rw [HW.out]
      refine (ref_Less b r.p hb hp _).mono ?_
      rintro e w1 ⟨rfl, hk1⟩
      rw [h2]
      have H0 := hid ((hk1.block _ (lt_of_block G0.out)).trans G0.out)
      have H2 := hid ((hk1.block _ (lt_of_block G2.out)).trans G2.out)
      have HB1 := hid (pu_trans HB.out hk1)
      clear hk1 HW
      go_wp2_with (first | (refine wpList_ld rfl _ rfl st_racc w.heap.size 0 (raccArr r (.slice p r.ents.length cap)).toList rfl rfl (row_cells H0.out) ?_) | (refine wpList_st rfl _ _ rfl st_racc (w.heap.size + 1 + 1) 0 (raccArr r (.slice p r.ents.length cap)) rfl rfl rfl hone.out _ _ H2.out (Nat.le_refl _) ?_; intro W4 h4 hk4))
      have h4' : W4.heap[w.heap.size + 1 + 1]? = some (.cells (raccArr r (.slice p r.ents.length cap)) 68 (0, 0)) := h4
      have hb4 := below_kp HB1.out hk4 (fun k e => by omega)
      exact bodyPost_ret (v := .tuple #[.agg (raccArr r (.slice p r.ents.length cap)), .slice none 0 0, .int .i64 8]) (results_cell_tmp2 Try.results24 _ _ (w.heap.size + 1 + 1) _ _ _ _ rfl h4' Try.underlying68 rfl (by kernel_rfl)) rfl ⟨_, _, rfl, Hv.out.below hb4, fun k hk => .inl hk, Rd.nil _ _, hb4⟩
    · have h2 : b.below r.p = false := by simpa using h2
      have he : r.prepErr b f = 0 := by simp [RAcc.prepErr, h1, h2]
      have hr : r.prepare b f = { r with p := b } := by simp [RAcc.prepare, he]
      have hl : r.prepList b f = r.from_ f := by simp [RAcc.prepList, he]
      rw [he, hr, hl]
      clear he hr hl
      have hone := hid (racc_one { r with p := b } p r.ents.length cap)
      have hone2 : ∀ v ∈ (stampArr b).toList, v.oneCell' = true := by
        intro v hv
        simp only [stampArr, List.mem_cons, List.not_mem_nil, or_false] at hv
        rcases hv with rfl | rfl | rfl <;> rfl
      have Hone2 := hid hone2
      clear hone2
      go_enter Try.func24, Try.ntmps24
      go_wp2_with fail
      rw [HW.out]
      refine (ref_Less b r.p hb hp _).mono ?_
      rintro e w1 ⟨rfl, hk1⟩
      rw [h2]
      have H0 := hid ((hk1.block _ (lt_of_block G0.out)).trans G0.out)
      have H1 := hid ((hk1.block _ (lt_of_block G1.out)).trans G1.out)
      have H2 := hid ((hk1.block _ (lt_of_block G2.out)).trans G2.out)
      have HB1 := hid (pu_trans HB.out hk1)
      clear hk1 HW
      go_wp2_with (first | (refine wpList_ld rfl _ rfl st_stamp (w.heap.size + 1) 0 (stampArr b).toList rfl rfl (row_cells H1.out) ?_) | (refine wpList_st rfl _ _ rfl st_stamp w.heap.size 0 (stampArr b) rfl rfl rfl Hone2.out _ _ H0.out (Nat.le_of_ble_eq_true rfl) ?_; intro W2 h2' hk2))
      have g0 : W2.heap[w.heap.size]? = some (.cells (raccArr { r with p := b } (.slice p r.ents.length cap)) 68 (0, 0)) := h2'
      have g2 : W2.heap[w.heap.size + 1 + 1]? = some (.cells (raccArr .zero (.slice none 0 0)) 68 (0, 0)) := hk2.heap H2.out (by omega)
      have hb2 := below_kp HB1.out hk2 (fun k e => by omega)
      have HB2 := hid hb2
      have G2' := hid g2
      have k0 : W2.cell? ⟨w.heap.size, 0, none⟩ = some (.int .u32 b.n) := by rw [cell_of g0]; rfl
      have k1 : W2.cell? ⟨w.heap.size, 1, none⟩ = some (.int .u8 b.by_) := by rw [cell_of g0]; rfl
      have k2 : W2.cell? ⟨w.heap.size, 2, none⟩ = some (.int .u8 0) := by rw [cell_of g0]; rfl
      have k3 : W2.cell? ⟨w.heap.size, 3, none⟩ = some (.int .u32 r.low) := by rw [cell_of g0]; rfl
      have k4 : W2.cell? ⟨w.heap.size, 4, none⟩ = some (.slice p r.ents.length cap) := by rw [cell_of g0]; rfl
      have hne : ¬ w.heap.size = w.heap.size + 1 + 1 := by omega
      clear h2' hk2 H0 H1 H2 g0 g2 hb2
      go_region_held3 (fun w' => w'.cell? ⟨w.heap.size, 0, none⟩ = some (.int .u32 b.n) ∧ w'.cell? ⟨w.heap.size, 1, none⟩ = some (.int .u8 b.by_) ∧ w'.cell? ⟨w.heap.size, 2, none⟩ = some (.int .u8 0) ∧ w'.cell? ⟨w.heap.size, 3, none⟩ = some (.int .u32 r.low) ∧ w'.cell? ⟨w.heap.size, 4, none⟩ = some (.slice p r.ents.length cap)) (first | (apply cell_keep5 <;> assumption) | (refine ⟨?_, ?_, ?_, ?_, ?_⟩ <;> (rw [set5_cell _ _ _ _ _ _ _ _ _ hne]; assumption)) | go_keep) (first | (go_at_call 27; refine (ref_From { r with p := b } f hn (.slice p r.ents.length cap) _ (Hv.out.below (pu_drew HB2.out))).mono ?_; rintro e w3 ⟨v3, rfl, ho3, hf3, hb3⟩; obtain ⟨p3, c3, rfl⟩ := ho3.form; obtain ⟨y0, y1, y2, y3, y4⟩ := cell_keep5 (W := W2.drew) hb3 ⟨k0, k1, k2, k3, k4⟩; have hg3 := (hb3.block _ (lt_of_block G2'.out)).trans G2'.out; have z0 : w3.cell? ⟨w.heap.size + 1 + 1, 0, none⟩ = some (.int .u32 0) := cell_at hg3 _ _ rfl; have q0 := free_of hg3 0; have z1 : w3.cell? ⟨w.heap.size + 1 + 1, 1, none⟩ = some (.int .u8 0) := cell_at hg3 _ _ rfl; have q1 := free_of hg3 1; have z2 : w3.cell? ⟨w.heap.size + 1 + 1, 2, none⟩ = some (.int .u8 0) := cell_at hg3 _ _ rfl; have q2 := free_of hg3 2; have z3 : w3.cell? ⟨w.heap.size + 1 + 1, 3, none⟩ = some (.int .u32 0) := cell_at hg3 _ _ rfl; have q3 := free_of hg3 3; have z4 : w3.cell? ⟨w.heap.size + 1 + 1, 4, none⟩ = some (.slice none 0 0) := cell_at hg3 _ _ rfl; have q4 := free_of hg3 4))
      have h5 := set5_at hg3 (.int .u32 b.n) (.int .u8 b.by_) (.int .u8 0) (.int .u32 r.low) (.slice p r.ents.length cap)
      have hk5 := set5_kp w3 (w.heap.size + 1 + 1) (.int .u32 b.n) (.int .u8 b.by_) (.int .u8 0) (.int .u32 r.low) (.slice p r.ents.length cap)
      have hb3' := pu_trans (pu_drew HB2.out) hb3
      have hb5 := below_kp hb3' hk5 (fun k e => by omega)
      have hz := HB2.out.size
      have hg3lt := lt_of_block G2'.out
      go_wp2_with fail
      refine bodyPost_ret (v := .tuple #[.agg (raccArr { r with p := b } (.slice p r.ents.length cap)), .slice p3 (r.from_ f).length c3, .int .i64 0]) (results_cell_tmp2 Try.results24 _ _ (w.heap.size + 1 + 1) _ _ _ _ rfl h5 Try.underlying68 rfl (by kernel_rfl)) rfl ⟨_, _, rfl, Hv.out.below hb5, fun k hk => .inl hk, ?_, hb5⟩
      refine ho3.rd.kept hk5 (fun k hk e => ?_)
      have := hf3 k hk
      have e' : k = w.heap.size + 1 + 1 := e
      have hs : W2.drew.heap.size = W2.heap.size := rfl
      omega
end Go.Proofs.Ytlpnomejpaoeaaa
