/- The document's acceptor: Accept. -/
import Derived.Test.YtlpnomejpaoeaaaRef5
namespace Go.Proofs.Ytlpnomejpaoeaaa
set_option linter.unusedSimpArgs false
set_option linter.unusedVariables false
open Go.RowKit
set_option maxHeartbeats 400000
set_option maxRecDepth 20000

/-- An entry behind it is put among those of the document, which are by rising slots. -/
def refPut : List REnt → REnt → List REnt
  | [], y => [y]
  | x :: t, y => if y.slot ≤ x.slot then y :: (x :: t).filter (fun z => decide (z.slot ≠ y.slot)) else x :: refPut t y
def RAcc.acceptErr (r : RAcc) (b : Ballot) (slot : Int) : Int :=
  if slot < r.low then 9 else if r.low + 16 ≤ slot then 6 else if b.below r.p then 8 else 0
def RAcc.accept (r : RAcc) (b : Ballot) (slot c : Int) : RAcc := if r.acceptErr b slot = 0 then { r with p := b, ents := refPut r.ents ⟨slot, b, c⟩ } else r
/-- What is still to come. -/
def refRest (put : Bool) (l : List REnt) (y : REnt) : List REnt := if put then l.filter (fun z => decide (z.slot ≠ y.slot)) else refPut l y
theorem rest_a {x y : REnt} {t : List REnt} (h : y.slot ≤ x.slot) (he : x.slot = y.slot) : refRest false (x :: t) y = [y] ++ refRest true t y := by
  simp [refRest, refPut, h, he]
theorem rest_b {x y : REnt} {t : List REnt} (h : y.slot ≤ x.slot) (he : ¬ x.slot = y.slot) : refRest false (x :: t) y = [y] ++ [x] ++ refRest true t y := by
  simp [refRest, refPut, h, he]
theorem rest_c {x y : REnt} {t : List REnt} (h : ¬ y.slot ≤ x.slot) : refRest false (x :: t) y = [x] ++ refRest false t y := by
  simp [refRest, refPut, h]
theorem rest_d {x y : REnt} {t : List REnt} (he : x.slot = y.slot) : refRest true (x :: t) y = refRest true t y := by
  simp [refRest, he]
theorem rest_e {x y : REnt} {t : List REnt} (he : ¬ x.slot = y.slot) : refRest true (x :: t) y = [x] ++ refRest true t y := by
  simp [refRest, he]
theorem drop_cons (l : List REnt) (k : Nat) (h : k < l.length) : l.drop k = l[k] :: l.drop (k + 1) := List.drop_eq_getElem_cons h

theorem results_cell_tmp1 {P : Program} {fn : Func} {a p : Tmp} {ty : TypeId} (h : fn.results = #[.cell p ty, .tmp a]) (tmps : Array Value) (w : World) (g : Nat) (t : TypeId) (cs : Array Value) (fr : Nat × Nat) (d : TypeDesc)
    (hp : tmps.getD p undef = .pointer (some ⟨g, 0, none⟩)) (hg : w.heap[g]? = some (.cells cs t fr))
    (hu : P.underlying ty = some d) (hd : (match d with | .struct _ | .array _ _ => true | _ => false) = true) (hi : (P.info? ty).map (·.size) = some cs.size) :
    (results fn tmps).run P w = .ok (.tuple #[.agg cs, tmps.getD a undef]) w := by
  have hp' : tmps[p]?.getD undef = .pointer (some ⟨g, 0, none⟩) := by simpa using hp
  simp [results, h, hp', asAddr, run_loadVar_row w g t ty cs fr d hg hu hd hi]
/-- The document's acceptor is handed back, with an error's number. -/
def RetAccE (r : RAcc) (n : Int) (v0 : Value) (w : World) (e : Ending) (w' : World) : Prop :=
  ∃ v, e = .returned (.tuple #[.agg (raccArr r v), .int .i64 n]) ∧ Rd w' 5 v r.ents.length (rentCells r.ents) ∧ (∀ k, v.ownBlock = some k → v0.ownBlock = some k ∨ w.heap.size ≤ k) ∧ Below w.heap.size w w'

theorem rent_lit (x : REnt) (W : World) (g : Nat) (hg : g = W.heap.size) : Rd (W.alloc (.cells (rentArr x) 113)) 5 (.slice (some ⟨g, 0, none⟩) 1 1) 1 (rentCells [x]) :=
  Rd.lit W _ _ 5 1 g hg rfl (by decide)
theorem ref_app {B : Nat} {w wr W w5 : World} {u5 v5 : Value} {acc : List REnt} {z : REnt} (hbw : Below w.heap.size w wr) (hW : Below wr.heap.size wr W)
    (hap : Appended W w5 113 5 u5 v5 (acc.length + 1) (rentCells acc ++ rentCells [z])) (hfu : Fresh (B + 1) u5) (hB : B < wr.heap.size) (hwB : w.heap.size ≤ B) :
    Own w5 113 5 v5 (acc ++ [z]).length (rentCells (acc ++ [z])) ∧ Fresh (B + 1) v5 ∧ Below w.heap.size w w5 ∧ ∀ (k : Nat) (o : Obj), k < B + 1 → wr.heap[k]? = some o → w5.heap[k]? = some o := by
  have hkA := (Kp.of_below (S := fun k => u5.ownBlock = some k) hW).trans hap.kp
  have hs := hW.size
  refine ⟨by have := hap.own; simpa [rentCells] using this, hap.fresh hfu (by omega), ?_, fun k o hk h => hkA.heap h (fun e => by have := hfu _ e; omega)⟩
  exact ⟨hkA.os.trans hbw.os, hkA.tape.trans hbw.tape, hkA.output.trans hbw.output, Nat.le_trans hbw.size hkA.size, fun i hi => (hkA.block i (Nat.lt_of_lt_of_le hi hbw.size) (fun e => by have := hfu _ e; omega)).trans (hbw.block i hi)⟩

theorem ref_x5 {wr w5 : World} {u v : Value} {n m : Nat} {xs ys : List Value} {X Y : Obj} (hown : Own wr 113 5 u n xs) (hap : Appended ((wr.alloc X).alloc Y) w5 113 5 u v m ys) : w5.heap[wr.heap.size]? = some X :=
  hap.kp.heap (alloc_old (alloc_new wr X)) (fun e => by have := hown.lt e; omega)

set_option maxHeartbeats 4000000 in
theorem ref_Accept (r : RAcc) (hp : r.p.fits) (hlow : 0 ≤ r.low ∧ r.low < 4294967296) (b : Ballot) (hb : b.fits) (slot c : Int) (hs : 0 ≤ slot ∧ slot < 4294967296) (hn : r.ents.length ≤ 1000) (v : Value) (w : World) (hv : Rd w 5 v r.ents.length (rentCells r.ents)) :
    Calls Try.prog 28 #[.agg (raccArr r v), .agg (stampArr b), .int .u32 slot, .int .u32 c] w (RetAccE (r.accept b slot c) (r.acceptErr b slot) v w) := by
  obtain ⟨p, cap, rfl⟩ := hv.form
  have Hv := hid hv
  clear hv
  generalize hW0 : ((w.alloc (.cells (raccArr r (.slice p r.ents.length cap)) 68)).alloc (.cells (stampArr b) 65)).alloc (.cells (raccArr .zero (.slice none 0 0)) 68) = W0
  have g0 : W0.heap[w.heap.size]? = some (.cells (raccArr r (.slice p r.ents.length cap)) 68 (0, 0)) := by rw [← hW0]; exact alloc_old (alloc_old (alloc_new w _))
  have g1 : W0.heap[w.heap.size + 1]? = some (.cells (stampArr b) 65 (0, 0)) := by
    have := alloc_new (w.alloc (.cells (raccArr r (.slice p r.ents.length cap)) 68)) (.cells (stampArr b) 65)
    rw [← hW0]
    exact alloc_old (by simpa using this)
  have g2 : W0.heap[w.heap.size + 2]? = some (.cells (raccArr .zero (.slice none 0 0)) 68 (0, 0)) := by
    have := alloc_new ((w.alloc (.cells (raccArr r (.slice p r.ents.length cap)) 68)).alloc (.cells (stampArr b) 65)) (.cells (raccArr .zero (.slice none 0 0)) 68)
    rw [← hW0]
    simpa using this
  have hb0 : Below w.heap.size w W0 := by rw [← hW0]; exact pu_alloc (pu_alloc (pu_alloc (pu_refl w) _) _) _
  have HW := hid hW0
  have HB := hid hb0
  have G0 := hid g0
  have G1 := hid g1
  have G2 := hid g2
  clear g0 g1 g2 hb0 hW0
  have hone := hid (racc_one r p r.ents.length cap)
  have x1 : IntKind.u64.wrap slot = slot := by rw [IntKind.wrap_u64]; omega
  have x2 : IntKind.u64.wrap r.low = r.low := by rw [IntKind.wrap_u64]; omega
  have x3 : IntKind.u64.wrap (r.low + 16) = r.low + 16 := by rw [IntKind.wrap_u64]; omega
  by_cases h1 : slot < r.low
  · have he : r.acceptErr b slot = 9 := by simp [RAcc.acceptErr, h1]
    have hr : r.accept b slot c = r := by simp [RAcc.accept, he]
    rw [he, hr]
    clear he hr
    go_enter Try.func28, Try.ntmps28
    go_wp2_with fail
    exact bodyPost_ret (v := .tuple #[.agg (raccArr r (.slice p r.ents.length cap)), .int .i64 9]) (results_cell_tmp1 Try.results28 _ _ (w.heap.size + 1 + 1) _ _ _ _ rfl (by
      have := alloc_new ((w.alloc (.cells (raccArr r (.slice p r.ents.length cap)) 68)).alloc (.cells (stampArr b) 65)) (.cells (raccArr r (.slice p r.ents.length cap)) 68)
      simpa using this) Try.underlying68 rfl (by kernel_rfl)) rfl ⟨_, rfl, Hv.out.below (pu_alloc (pu_alloc (pu_alloc (pu_refl w) _) _) _), fun k hk => .inl hk, pu_alloc (pu_alloc (pu_alloc (pu_refl w) _) _) _⟩
  · by_cases h2 : r.low + 16 ≤ slot
    · have he : r.acceptErr b slot = 6 := by simp [RAcc.acceptErr, h1, h2]
      have hr : r.accept b slot c = r := by simp [RAcc.accept, he]
      rw [he, hr]
      clear he hr
      go_enter Try.func28, Try.ntmps28
      go_wp2_with fail
      exact bodyPost_ret (v := .tuple #[.agg (raccArr r (.slice p r.ents.length cap)), .int .i64 6]) (results_cell_tmp1 Try.results28 _ _ (w.heap.size + 1 + 1) _ _ _ _ rfl (by
        have := alloc_new ((w.alloc (.cells (raccArr r (.slice p r.ents.length cap)) 68)).alloc (.cells (stampArr b) 65)) (.cells (raccArr r (.slice p r.ents.length cap)) 68)
        simpa using this) Try.underlying68 rfl (by kernel_rfl)) rfl ⟨_, rfl, Hv.out.below (pu_alloc (pu_alloc (pu_alloc (pu_refl w) _) _) _), fun k hk => .inl hk, pu_alloc (pu_alloc (pu_alloc (pu_refl w) _) _) _⟩
    · by_cases h3 : b.below r.p = true
      · have he : r.acceptErr b slot = 8 := by simp [RAcc.acceptErr, h1, h2, h3]
        have hr : r.accept b slot c = r := by simp [RAcc.accept, he]
        rw [he, hr]
        clear he hr
        go_enter Try.func28, Try.ntmps28
        go_wp2_with fail
        rw [HW.out]
        refine (ref_Less b r.p hb hp _).mono ?_
        rintro e w1 ⟨rfl, hk1⟩
        rw [h3]
        have H0 := hid ((hk1.block _ (lt_of_block G0.out)).trans G0.out)
        have H2 := hid ((hk1.block _ (lt_of_block G2.out)).trans G2.out)
        have HB1 := hid (pu_trans HB.out hk1)
        clear hk1 HW
        go_wp2_with (first | (refine wpList_ld rfl _ rfl st_racc w.heap.size 0 (raccArr r (.slice p r.ents.length cap)).toList rfl rfl (row_cells H0.out) ?_) | (refine wpList_st rfl _ _ rfl st_racc (w.heap.size + 1 + 1) 0 (raccArr r (.slice p r.ents.length cap)) rfl rfl rfl hone.out _ _ H2.out (Nat.le_refl _) ?_; intro W4 h4 hk4))
        have h4' : W4.heap[w.heap.size + 1 + 1]? = some (.cells (raccArr r (.slice p r.ents.length cap)) 68 (0, 0)) := h4
        have hb4 := below_kp HB1.out hk4 (fun k e => by omega)
        exact bodyPost_ret (v := .tuple #[.agg (raccArr r (.slice p r.ents.length cap)), .int .i64 8]) (results_cell_tmp1 Try.results28 _ _ (w.heap.size + 1 + 1) _ _ _ _ rfl h4' Try.underlying68 rfl (by kernel_rfl)) rfl ⟨_, rfl, Hv.out.below hb4, fun k hk => .inl hk, hb4⟩
      · have h3 : b.below r.p = false := by simpa using h3
        have he : r.acceptErr b slot = 0 := by simp [RAcc.acceptErr, h1, h2, h3]
        have hr : r.accept b slot c = { r with p := b, ents := refPut r.ents ⟨slot, b, c⟩ } := by simp [RAcc.accept, he]
        rw [he, hr]
        clear he hr
        have hone2 : ∀ v ∈ (stampArr b).toList, v.oneCell' = true := by
          intro v hv
          simp only [stampArr, List.mem_cons, List.not_mem_nil, or_false] at hv
          rcases hv with rfl | rfl | rfl <;> rfl
        have Hone2 := hid hone2
        clear hone2
        go_enter Try.func28, Try.ntmps28
        go_wp2_with fail
        rw [HW.out]
        refine (ref_Less b r.p hb hp _).mono ?_
        rintro e w1 ⟨rfl, hk1⟩
        rw [h3]
        have H0 := hid ((hk1.block _ (lt_of_block G0.out)).trans G0.out)
        have H1 := hid ((hk1.block _ (lt_of_block G1.out)).trans G1.out)
        have H2 := hid ((hk1.block _ (lt_of_block G2.out)).trans G2.out)
        have HB1 := hid (pu_trans HB.out hk1)
        clear hk1 HW
        go_wp2_with (first | (refine wpList_ld rfl _ rfl st_stamp (w.heap.size + 1) 0 (stampArr b).toList rfl rfl (row_cells H1.out) ?_) | (refine wpList_st rfl _ _ rfl st_stamp w.heap.size 0 (stampArr b) rfl rfl rfl Hone2.out _ _ H0.out (Nat.le_of_ble_eq_true rfl) ?_; intro W2 h2' hk2))
        have g0 : W2.heap[w.heap.size]? = some (.cells (raccArr { r with p := b } (.slice p r.ents.length cap)) 68 (0, 0)) := h2'
        have g1 : W2.heap[w.heap.size + 1]? = some (.cells (stampArr b) 65 (0, 0)) := hk2.heap H1.out (by omega)
        have g2 : W2.heap[w.heap.size + 1 + 1]? = some (.cells (raccArr .zero (.slice none 0 0)) 68 (0, 0)) := hk2.heap H2.out (by omega)
        have hb2 := below_kp HB1.out hk2 (fun k e => by omega)
        have HB2 := hid hb2
        have G0' := hid g0
        have G1' := hid g1
        have G2' := hid g2
        clear h2' hk2 H0 H1 H2 g0 g1 g2 hb2 G0 G1 G2 HB HB1 Hone2
        clear x1 x2 x3
        go_loopw [10, 11, 12] (fun u q i wr => ∃ (k : Nat) (acc : List REnt) (put : Bool), k ≤ r.ents.length ∧ i = .int .i64 k ∧ q = .bool put ∧ Hid (acc ++ refRest put (r.ents.drop k) ⟨slot, b, c⟩ = refPut r.ents ⟨slot, b, c⟩) ∧ acc.length ≤ k + put.toNat ∧ Hid (wr.heap[w.heap.size]? = some (.cells (raccArr { r with p := b } (.slice p r.ents.length cap)) 68 (0, 0))) ∧ Hid (wr.heap[w.heap.size + 1]? = some (.cells (stampArr b) 65 (0, 0))) ∧ Hid (wr.heap[w.heap.size + 1 + 1]? = some (.cells (raccArr .zero (.slice none 0 0)) 68 (0, 0))) ∧ Hid (Own wr 113 5 u acc.length (rentCells acc)) ∧ Fresh (w.heap.size + 1 + 1 + 1) u ∧ Below w.heap.size w wr) (fun _ _ i _ => r.ents.length - (intOf i).toNat)
        case atStart => exact ⟨0, [], false, by omega, rfl, rfl, hid rfl, by simp, G0', G1', G2', hid (Own.nil _ _ _), Fresh.nil _, HB2.out⟩
        case round =>
          obtain ⟨k, acc, put, hk, rfl, rfl, hrest, hal, hg0, hg1, hg2, hown, hfu, hbw⟩ := hrel
          clear G0' G1' G2' HB2
          have cE : wr.cell? ⟨w.heap.size, 4, none⟩ = some (.slice p r.ents.length cap) := cell_at hg0.out _ _ rfl
          have s0 : wr.cell? ⟨w.heap.size + 1, 0, none⟩ = some (.int .u32 b.n) := cell_at hg1.out _ _ rfl
          have s1 : wr.cell? ⟨w.heap.size + 1, 1, none⟩ = some (.int .u8 b.by_) := cell_at hg1.out _ _ rfl
          have s2 : wr.cell? ⟨w.heap.size + 1, 2, none⟩ = some (.int .u8 0) := cell_at hg1.out _ _ rfl
          by_cases hlt : k < r.ents.length
          · have hlti : (k : Int) < r.ents.length := by omega
            obtain ⟨g, o, rfl, hnc, hcm, hgl, hcell⟩ := Hv.out.place (by omega)
            have hc : ∀ i u, i < 5 → (rentArr r.ents[k]).toList[i]? = some u → wr.cell? ⟨g, o + k * 5 + i, none⟩ = some u := fun i u hi hu => by
              rw [hbw.cell (p := ⟨g, o + k * 5 + i, none⟩) hgl, Nat.add_assoc]
              exact hcell _ _ (by rw [rentCells_at r.ents k i hlt hi]; exact hu)
            have c0 : wr.cell? ⟨g, o + k * 5, none⟩ = some (.int .u32 r.ents[k].slot) := hc 0 _ (by omega) rfl
            have c1 := hc 1 _ (by omega) rfl
            have c2 := hc 2 _ (by omega) rfl
            have c3 := hc 3 _ (by omega) rfl
            have c4 := hc 4 _ (by omega) rfl
            have hdrop := hid (drop_cons r.ents k hlt)
            generalize r.ents[k] = x at *
            clear hc hcell
            have hg0lt : w.heap.size + 1 + 1 < wr.heap.size := lt_of_block hg2.out
            have hl1 : w.heap.size + 1 < wr.heap.size := by omega
            have hl0 : w.heap.size < wr.heap.size := by omega
            cases put with
            | false =>
              have hal : acc.length ≤ k := hal
              by_cases ha : slot ≤ x.slot
              · by_cases he : x.slot = slot
                · have heb : (x.slot != slot) = false := by simp [he]
                  have he' := hid he
                  clear he
                  go_wp2_with (first | (at_builtin; refine wpList_app rfl _ _ rfl sl_rents u10 _ _ rfl (hown.out.below (pu_alloc (pu_alloc (pu_refl wr) _) _)) _ 1 _ rfl (rent_lit ⟨slot, b, c⟩ _ _ (by simp)) (rentCells_one [⟨slot, b, c⟩]) (by unfold maxLen; omega) (by omega) ?_; intro v5 w5 hap; have hx5 := ref_x5 hown.out hap; have z0 := cell_at hx5 0 _ rfl; have z1 := cell_at hx5 1 _ rfl; have z2 := cell_at hx5 2 _ rfl; have z3 := cell_at hx5 3 _ rfl; have z4 := cell_at hx5 4 _ rfl))
                  obtain ⟨o5, f5, b5, k5⟩ := ref_app hbw (pu_alloc (pu_alloc (pu_refl wr) _) _) hap hfu hg0lt (by omega)
                  go_roundw
                  case rel => exact ⟨k + 1, acc ++ [⟨slot, b, c⟩], true, by omega, by go_num, rfl, hid (by rw [← hrest.out, hdrop.out, rest_a ha he'.out]; simp), by simp; omega, hid (k5 _ _ (by omega) hg0.out), hid (k5 _ _ (by omega) hg1.out), hid (k5 _ _ (by omega) hg2.out), hid o5, f5, b5⟩
                  case measure => simp [intOf]; omega
                · have heb : (x.slot != slot) = true := by simp [he]
                  go_wp2_with (first | (at_builtin; refine wpList_app rfl _ _ rfl sl_rents u10 _ _ rfl (hown.out.below (pu_alloc (pu_alloc (pu_refl wr) _) _)) _ 1 _ rfl (rent_lit ⟨slot, b, c⟩ _ _ (by simp)) (rentCells_one [⟨slot, b, c⟩]) (by unfold maxLen; omega) (by omega) ?_; intro v5 w5 hap; have hx5 := ref_x5 hown.out hap; have z0 := cell_at hx5 0 _ rfl; have z1 := cell_at hx5 1 _ rfl; have z2 := cell_at hx5 2 _ rfl; have z3 := cell_at hx5 3 _ rfl; have z4 := cell_at hx5 4 _ rfl) | (at_builtin; refine wpList_app rfl _ _ rfl sl_rents v5 _ _ rfl (hap.own.below (below_alloc w5 _)) _ 1 _ rfl (rent_lit x _ _ (by simp)) (rentCells_one [x]) (by unfold maxLen; omega) (by omega) ?_; intro v6 w6 hap2))
                  obtain ⟨o5, f5, b5, k5⟩ := ref_app hbw (pu_alloc (pu_alloc (pu_refl wr) _) _) hap hfu hg0lt (by omega)
                  have hl5 : w.heap.size + 1 + 1 < w5.heap.size := by have := hap.kp.size; simp at this; omega
                  obtain ⟨o6, f6, b6, k6⟩ := ref_app (acc := acc ++ [⟨slot, b, c⟩]) (z := x) b5 (below_alloc w5 _) (by simpa [rentCells] using hap2) f5 hl5 (by omega)
                  go_roundw
                  case rel => exact ⟨k + 1, acc ++ [⟨slot, b, c⟩] ++ [x], true, by omega, by go_num, rfl, hid (by rw [← hrest.out, hdrop.out, rest_b ha he]; simp), by simp; omega, hid (k6 _ _ (by omega) (k5 _ _ (by omega) hg0.out)), hid (k6 _ _ (by omega) (k5 _ _ (by omega) hg1.out)), hid (k6 _ _ (by omega) (k5 _ _ (by omega) hg2.out)), hid o6, f6, b6⟩
                  case measure => simp [intOf]; omega
              · have he : ¬ x.slot = slot := by omega
                have heb : (x.slot != slot) = true := by simp [he]
                go_wp2_with (first | (at_builtin; refine wpList_app rfl _ _ rfl sl_rents u10 _ _ rfl (hown.out.below (pu_alloc (pu_alloc (pu_refl wr) _) _)) _ 1 _ rfl (rent_lit x _ _ (by simp)) (rentCells_one [x]) (by unfold maxLen; omega) (by omega) ?_; intro v5 w5 hap))
                obtain ⟨o5, f5, b5, k5⟩ := ref_app hbw (pu_alloc (pu_alloc (pu_refl wr) _) _) hap hfu hg0lt (by omega)
                go_roundw
                case rel => exact ⟨k + 1, acc ++ [x], false, by omega, by go_num, rfl, hid (by rw [← hrest.out, hdrop.out, rest_c ha]; simp), by simp; omega, hid (k5 _ _ (by omega) hg0.out), hid (k5 _ _ (by omega) hg1.out), hid (k5 _ _ (by omega) hg2.out), hid o5, f5, b5⟩
                case measure => simp [intOf]; omega
            | true =>
              have hal : acc.length ≤ k + 1 := hal
              by_cases he : x.slot = slot
              · have heb : (x.slot != slot) = false := by simp [he]
                have he' := hid he
                clear he
                go_wp2_with fail
                go_roundw
                case rel => exact ⟨k + 1, acc, true, by omega, by go_num, rfl, hid (by rw [← hrest.out, hdrop.out, rest_d he'.out]), by simp; omega, hid (alloc_old hg0.out), hid (alloc_old hg1.out), hid (alloc_old hg2.out), hid (hown.out.below (below_alloc _ _)), hfu, pu_alloc hbw _⟩
                case measure => simp [intOf]; omega
              · have heb : (x.slot != slot) = true := by simp [he]
                go_wp2_with (first | (at_builtin; refine wpList_app rfl _ _ rfl sl_rents u10 _ _ rfl (hown.out.below (pu_alloc (pu_alloc (pu_refl wr) _) _)) _ 1 _ rfl (rent_lit x _ _ (by simp)) (rentCells_one [x]) (by unfold maxLen; omega) (by omega) ?_; intro v5 w5 hap))
                obtain ⟨o5, f5, b5, k5⟩ := ref_app hbw (pu_alloc (pu_alloc (pu_refl wr) _) _) hap hfu hg0lt (by omega)
                go_roundw
                case rel => exact ⟨k + 1, acc ++ [x], true, by omega, by go_num, rfl, hid (by rw [← hrest.out, hdrop.out, rest_e he]; simp), by simp; omega, hid (k5 _ _ (by omega) hg0.out), hid (k5 _ _ (by omega) hg1.out), hid (k5 _ _ (by omega) hg2.out), hid o5, f5, b5⟩
                case measure => simp [intOf]; omega
          · have hk' : k = r.ents.length := by omega
            subst hk'
            rw [List.drop_length] at hrest
            have hg0lt : w.heap.size + 1 + 1 < wr.heap.size := lt_of_block hg2.out
            have hl1 : w.heap.size + 1 < wr.heap.size := by omega
            have hl0 : w.heap.size < wr.heap.size := by omega
            cases put with
            | false =>
              have hal : acc.length ≤ r.ents.length := hal
              have hlast : Hid (acc ++ [⟨slot, b, c⟩] = refPut r.ents ⟨slot, b, c⟩) := hid (by rw [← hrest.out]; simp [refRest, refPut])
              clear hrest
              go_wp2_with (first | (at_builtin; refine wpList_app rfl _ _ rfl sl_rents u10 _ _ rfl (hown.out.below (below_alloc wr _)) _ 1 _ rfl (rent_lit ⟨slot, b, c⟩ _ _ (by simp)) (rentCells_one [⟨slot, b, c⟩]) (by unfold maxLen; omega) (by omega) ?_; intro v5 wq hap; obtain ⟨hoq, hfq, hbq, k5⟩ := ref_app hbw (below_alloc wr _) hap hfu hg0lt (by omega); rw [hlast.out] at hoq; obtain ⟨p5, c5, rfl⟩ := hoq.form; have q0 := k5 _ _ (by omega) hg0.out; have q2 := k5 _ _ (by omega) hg2.out; have H0 := hid (setCell_at (i := 4) q0 (.slice p5 (refPut r.ents ⟨slot, b, c⟩).length c5) (c' := raccArr { r with p := b, ents := refPut r.ents ⟨slot, b, c⟩ } (.slice p5 (refPut r.ents ⟨slot, b, c⟩).length c5)) rfl); have H2 := hid (setCell_other (i := 4) (b' := w.heap.size) q2 (by omega) (.slice p5 (refPut r.ents ⟨slot, b, c⟩).length c5)); have f4 := free_of q0 4; have k4 := cell_at q0 4 _ rfl; clear q0 q2 hap) | (refine wpList_ld rfl _ rfl st_racc w.heap.size 0 (raccArr { r with p := b, ents := refPut r.ents ⟨slot, b, c⟩ } (.slice p5 (refPut r.ents ⟨slot, b, c⟩).length c5)).toList rfl rfl (row_cells H0.out) ?_) | (refine wpList_st rfl _ _ rfl st_racc (w.heap.size + 1 + 1) 0 (raccArr { r with p := b, ents := refPut r.ents ⟨slot, b, c⟩ } (.slice p5 (refPut r.ents ⟨slot, b, c⟩).length c5)) rfl rfl rfl (racc_one { r with p := b, ents := refPut r.ents ⟨slot, b, c⟩ } p5 _ c5) _ _ H2.out (Nat.le_refl _) ?_; intro W4 h4 hk4))
              have h4' : W4.heap[w.heap.size + 1 + 1]? = some (.cells (raccArr { r with p := b, ents := refPut r.ents ⟨slot, b, c⟩ } (.slice p5 (refPut r.ents ⟨slot, b, c⟩).length c5)) 68 (0, 0)) := h4
              have hkk : Kp (fun k => k = w.heap.size ∨ k = w.heap.size + 1 + 1) wq W4 := ((only_set wq w.heap.size 4 _).mono (fun k _ e => .inl e)).then hk4 (fun k _ e => .inr e)
              have hb4 := below_kp hbq hkk (fun k e => by rcases e with e | e <;> omega)
              refine bodyPost_ret (v := .tuple #[.agg (raccArr { r with p := b, ents := refPut r.ents ⟨slot, b, c⟩ } (.slice p5 (refPut r.ents ⟨slot, b, c⟩).length c5)), .int .i64 0]) (results_cell_tmp1 Try.results28 _ _ (w.heap.size + 1 + 1) _ _ _ _ rfl h4' Try.underlying68 rfl (by kernel_rfl)) rfl ⟨_, rfl, hoq.rd.kept hkk (fun k hk e => ?_), fun k hk => .inr ?_, hb4⟩
              · have := hfq k hk; rcases e with e | e <;> omega
              · have := hfq k hk; omega
            | true =>
              have hal : acc.length ≤ r.ents.length + 1 := hal
              have hlast : acc = refPut r.ents ⟨slot, b, c⟩ := by rw [← hrest.out]; simp [refRest]
              have hoq := hown.out
              rw [hlast] at hoq
              obtain ⟨p5, c5, rfl⟩ := hoq.form
              have hfq := hfu
              have hbq := hbw
              have q0 := hg0.out
              have q2 := hg2.out
              obtain ⟨wq, hwq⟩ : ∃ wq, wq = wr := ⟨_, rfl⟩
              subst hwq
              have H0 := hid (setCell_at (i := 4) q0 (.slice p5 (refPut r.ents ⟨slot, b, c⟩).length c5) (c' := raccArr { r with p := b, ents := refPut r.ents ⟨slot, b, c⟩ } (.slice p5 (refPut r.ents ⟨slot, b, c⟩).length c5)) rfl)
              have H2 := hid (setCell_other (i := 4) (b' := w.heap.size) q2 (by omega) (.slice p5 (refPut r.ents ⟨slot, b, c⟩).length c5))
              have f4 := free_of q0 4
              have k4 := cell_at q0 4 _ rfl
              clear q0 q2 hlast hrest hown
              go_wp2_with (first | (refine wpList_ld rfl _ rfl st_racc w.heap.size 0 (raccArr { r with p := b, ents := refPut r.ents ⟨slot, b, c⟩ } (.slice p5 (refPut r.ents ⟨slot, b, c⟩).length c5)).toList rfl rfl (row_cells H0.out) ?_) | (refine wpList_st rfl _ _ rfl st_racc (w.heap.size + 1 + 1) 0 (raccArr { r with p := b, ents := refPut r.ents ⟨slot, b, c⟩ } (.slice p5 (refPut r.ents ⟨slot, b, c⟩).length c5)) rfl rfl rfl (racc_one { r with p := b, ents := refPut r.ents ⟨slot, b, c⟩ } p5 _ c5) _ _ H2.out (Nat.le_refl _) ?_; intro W4 h4 hk4))
              have h4' : W4.heap[w.heap.size + 1 + 1]? = some (.cells (raccArr { r with p := b, ents := refPut r.ents ⟨slot, b, c⟩ } (.slice p5 (refPut r.ents ⟨slot, b, c⟩).length c5)) 68 (0, 0)) := h4
              have hkk : Kp (fun k => k = w.heap.size ∨ k = w.heap.size + 1 + 1) wq W4 := ((only_set wq w.heap.size 4 _).mono (fun k _ e => .inl e)).then hk4 (fun k _ e => .inr e)
              have hb4 := below_kp hbq hkk (fun k e => by rcases e with e | e <;> omega)
              refine bodyPost_ret (v := .tuple #[.agg (raccArr { r with p := b, ents := refPut r.ents ⟨slot, b, c⟩ } (.slice p5 (refPut r.ents ⟨slot, b, c⟩).length c5)), .int .i64 0]) (results_cell_tmp1 Try.results28 _ _ (w.heap.size + 1 + 1) _ _ _ _ rfl h4' Try.underlying68 rfl (by kernel_rfl)) rfl ⟨_, rfl, hoq.rd.kept hkk (fun k hk e => ?_), fun k hk => .inr ?_, hb4⟩
              · have := hfq k hk; rcases e with e | e <;> omega
              · have := hfq k hk; omega
end Go.Proofs.Ytlpnomejpaoeaaa
