/- The document's acceptor: From. -/
import Derived.Test.YtlpnomejpaoeaaaRef2
namespace Go.Proofs.Ytlpnomejpaoeaaa
set_option linter.unusedSimpArgs false
set_option linter.unusedVariables false
open Go.RowKit
set_option maxHeartbeats 400000
set_option maxRecDepth 20000

/-- The document's acceptor. -/
structure RAcc where
  p : Ballot
  low : Int
  ents : List REnt
abbrev raccArr (r : RAcc) (v : Value) : Array Value := #[.int .u32 r.p.n, .int .u8 r.p.by_, .int .u8 0, .int .u32 r.low, v]
def RAcc.from_ (r : RAcc) (f : Int) : List REnt := r.ents.filter fun x => decide (f ≤ x.slot)
theorem rentCells_snoc (l : List REnt) (x : REnt) : rentCells (l ++ [x]) = rentCells l ++ (rentArr x).toList := by simp [rentCells]

set_option maxHeartbeats 1000000 in
theorem ref_From (r : RAcc) (f : Int) (hn : r.ents.length ≤ 1000) (v : Value) (w : World) (hv : Rd w 5 v r.ents.length (rentCells r.ents)) :
    Calls Try.prog 27 #[.agg (raccArr r v), .int .u32 f] w (RetOwn 113 5 (r.from_ f).length (rentCells (r.from_ f)) w) := by
  obtain ⟨p, cap, rfl⟩ := hv.form
  have hRd : ∀ (x : REnt) (W : World) (g : Nat), g = W.heap.size → Rd (W.alloc (.cells (rentArr x) 113)) 5 (.slice (some ⟨g, 0, none⟩) 1 1) 1 (rentCells [x]) :=
    fun x W g hg => Rd.lit W _ _ 5 1 g hg rfl (by decide)
  have HRd := hid hRd
  have Hv := hid hv
  clear hRd hv
  go_enter Try.func27, Try.ntmps27
  go_wp2_with fail
  have g0 := alloc_new w (.cells (raccArr r (.slice p r.ents.length cap)) 68)
  have hb0 := below_alloc w (.cells (raccArr r (.slice p r.ents.length cap)) 68)
  have G0 := hid g0
  have HB0 := hid hb0
  clear g0 hb0
  go_loopw [5, 6] (fun u i wr => ∃ (k : Nat) (acc : List REnt), k ≤ r.ents.length ∧ i = .int .i64 k ∧ acc = (r.ents.take k).filter (fun x => decide (f ≤ x.slot)) ∧ wr.heap[w.heap.size]? = some (.cells (raccArr r (.slice p r.ents.length cap)) 68 (0, 0)) ∧ Own wr 113 5 u acc.length (rentCells acc) ∧ Fresh (w.heap.size + 1) u ∧ Below w.heap.size w wr) (fun _ i _ => r.ents.length - (intOf i).toNat)
  case atStart => exact ⟨0, [], by omega, rfl, rfl, G0.out, Own.nil _ _ _, Fresh.nil _, HB0.out⟩
  case round =>
    obtain ⟨k, acc, hk, rfl, hacc, hg, hown, hfu, hbw⟩ := hrel
    clear G0 HB0
    have cE : wr.cell? ⟨w.heap.size, 4, none⟩ = some (.slice p r.ents.length cap) := by rw [cell_of hg]; rfl
    by_cases hlt : k < r.ents.length
    · have hlti : (k : Int) < r.ents.length := by omega
      obtain ⟨g, o, rfl, hnc, hcm, hgl, hcell⟩ := Hv.out.place (by omega)
      have hc : ∀ i u, i < 5 → (rentArr r.ents[k]).toList[i]? = some u → wr.cell? ⟨g, o + k * 5 + i, none⟩ = some u := fun i u hi hu => by
        rw [hbw.cell (p := ⟨g, o + k * 5 + i, none⟩) hgl, Nat.add_assoc]
        exact hcell _ _ (by rw [rentCells_at r.ents k i hlt hi]; exact hu)
      have c0 : wr.cell? ⟨g, o + k * 5, none⟩ = some (.int .u32 r.ents[k].slot) := hc 0 _ (by omega) rfl
      have c1 := hc 1 _ (by omega) rfl
      have c2 := hc 2 _ (by omega) rfl
      have c3 := hc 3 _ (by omega) rfl
      have c4 := hc 4 _ (by omega) rfl
      have Ho := hid hown
      have hal : acc.length ≤ 1000 := by
        rw [hacc]
        have h1 := List.length_filter_le (fun x : REnt => decide (f ≤ x.slot)) (r.ents.take k)
        have h2 := List.length_take_le k r.ents
        omega
      have Hacc := hid hacc
      clear hown hc hcell hacc
      go_wp2_with (at_builtin; refine wpList_app rfl _ _ rfl sl_rents u5 _ _ rfl (Ho.out.below (below_alloc wr _)) _ 1 _ rfl (HRd.out r.ents[k] _ _ rfl) (rentCells_one [r.ents[k]]) (by unfold maxLen; omega) (by omega) ?_; intro v5 w5 hap)
      · rename_i hge
        have hown5 : Own w5 113 5 v5 (acc ++ [r.ents[k]]).length (rentCells (acc ++ [r.ents[k]])) := by
          have := hap.own
          simpa [rentCells] using this
        have hkA := (Kp.of_below (below_alloc wr (.cells (rentArr r.ents[k]) 113))).trans hap.kp
        have hglt : w.heap.size < wr.heap.size := lt_of_block hg
        go_roundw
        case rel =>
          refine ⟨k + 1, acc ++ [r.ents[k]], by omega, by go_num, ?_, ?_, hown5, ?_, ?_⟩
          · rw [Hacc.out, List.take_succ_eq_append_getElem hlt, List.filter_append]
            simp [hge]
          · exact (hkA.block _ hglt (fun e => by have := hfu _ e; omega)).trans hg
          · exact hap.fresh hfu (by have := hbw.size; simp; omega)
          · exact ⟨hkA.os.trans hbw.os, hkA.tape.trans hbw.tape, hkA.output.trans hbw.output, Nat.le_trans hbw.size hkA.size, fun i hi => (hkA.block i (Nat.lt_of_lt_of_le hi hbw.size) (fun e => by have := hfu _ e; omega)).trans (hbw.block i hi)⟩
        case measure => simp [intOf]; omega
      · rename_i hge
        go_roundw
        case rel =>
          refine ⟨k + 1, acc, by omega, by go_num, ?_, hg, Ho.out, hfu, hbw⟩
          · rw [Hacc.out, List.take_succ_eq_append_getElem hlt, List.filter_append]
            simp [hge]
        case measure => simp [intOf]; omega
    · go_wp2_with fail
      go_ret
      have hk' : k = r.ents.length := by omega
      rw [hk', List.take_length] at hacc
      have e : acc = r.from_ f := hacc
      rw [← e]
      exact ⟨_, rfl, hown, hfu.mono (by omega), hbw⟩
end Go.Proofs.Ytlpnomejpaoeaaa
