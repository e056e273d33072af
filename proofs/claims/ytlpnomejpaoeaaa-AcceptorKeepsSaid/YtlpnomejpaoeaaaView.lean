/- Views as records have them. -/
import Derived.Test.YtlpnomejpaoeaaaRecord
namespace Go.Proofs.Ytlpnomejpaoeaaa
set_option linter.unusedSimpArgs false
set_option linter.unusedVariables false
open Go.RowKit
set_option maxHeartbeats 400000
set_option maxRecDepth 20000

structure Member where
  node : Int
  life : Int
  ready : Bool
def Member.cells (m : Member) : List Value := [.int .u8 m.node, .int .u8 m.life, .bool m.ready]
def Member.fits (m : Member) : Prop := (0 ≤ m.node ∧ m.node < 256) ∧ (0 ≤ m.life ∧ m.life < 256)
def memCells (l : List Member) : List Value := l.flatMap Member.cells
structure View where
  epoch : Int
  members : List Member
  lives : List Int
/-- The greatest life of a place. -/
def View.l (x : View) (i : Nat) : Int := x.lives.getD i 0
structure View.fits (x : View) : Prop where
  epoch : 0 ≤ x.epoch ∧ x.epoch < 4294967296
  members : ∀ m ∈ x.members, m.fits
  len : x.lives.length = 8
  lives : ∀ n ∈ x.lives, 0 ≤ n ∧ n < 256
theorem View.fits.l {x : View} (h : x.fits) (i : Nat) : 0 ≤ x.l i ∧ x.l i < 256 := by
  unfold View.l
  by_cases hi : i < x.lives.length
  · simp only [List.getD, List.getElem?_eq_getElem hi, Option.getD_some]
    exact h.lives _ (List.getElem_mem hi)
  · simp [List.getD, List.getElem?_eq_none (Nat.le_of_not_lt hi)]
theorem memCells_length (l : List Member) : (memCells l).length = l.length * 3 := by
  induction l with
  | nil => rfl
  | cons p l ih => simp only [memCells, List.flatMap_cons, List.length_append, Member.cells, List.length_cons, List.length_nil] at ih ⊢; omega
theorem memCells_at (l : List Member) (k i : Nat) (hk : k < l.length) (hi : i < 3) : (memCells l)[k * 3 + i]? = l[k].cells[i]? := by
  induction l generalizing k with
  | nil => simp at hk
  | cons p l ih =>
    simp only [memCells, List.flatMap_cons] at ih ⊢
    cases k with
    | zero => rw [List.getElem?_append_left (by simp [Member.cells]; omega)]; simp
    | succ k =>
      rw [List.getElem?_append_right (by simp [Member.cells]; omega)]
      have : (k + 1) * 3 + i - p.cells.length = k * 3 + i := by simp [Member.cells]; omega
      rw [this, ih k (by simpa using hk)]
      simp
/-- A view's ten cells, its list a slice. -/
abbrev viewCells (x : View) (s : Value) : Array Value :=
  #[.int .u32 x.epoch, s, .int .u8 (x.l 0), .int .u8 (x.l 1), .int .u8 (x.l 2), .int .u8 (x.l 3), .int .u8 (x.l 4), .int .u8 (x.l 5), .int .u8 (x.l 6), .int .u8 (x.l 7)]

def livesBytes (x : View) : Bytes := (List.range 8).map fun i => UInt8.ofNat (x.l i).toNat
def memParts (m : Member) : List Part := [Part.num m.node 1, Part.num m.life 1, Part.num (if m.ready then 1 else 0) 1]
def headParts (low : Int) (x : View) : List Part := [Part.num low 4, Part.num x.epoch 4, Part.num x.members.length 1]
def viewParts (low : Int) (x : View) : List Part := headParts low x ++ x.members.flatMap memParts ++ [Part.raw (livesBytes x)]
theorem memParts_length (l : List Member) : (l.flatMap memParts).length = l.length * 3 := by
  induction l with
  | nil => rfl
  | cons p l ih => simp only [List.flatMap_cons, List.length_append, memParts, List.length_cons, List.length_nil] at ih ⊢; omega
theorem viewParts_length (low : Int) (x : View) : (viewParts low x).length = 4 + x.members.length * 3 := by
  simp only [viewParts, List.length_append, memParts_length, headParts, List.length_cons, List.length_nil]; omega
theorem partCells_append (a b : List Part) : partCells (a ++ b) = partCells a ++ partCells b := by simp [partCells]

set_option maxHeartbeats 1000000 in
theorem acceptor_parts (low : Int) (hl : 0 ≤ low ∧ low < 4294967296) (x : View) (hx : x.fits) (hn : x.members.length ≤ 8) (s : Value) (w : World) (hs : Rd w 3 s x.members.length (memCells x.members)) :
    Calls Try.prog 38 #[.int .u32 low, .agg (viewCells x s)] w (RetOwn 93 4 (viewParts low x).length (partCells (viewParts low x)) w) := by
  have Hl := hid hx.l
  obtain ⟨hep, hmem, hlen, hlives⟩ := hx
  have hRd : ∀ (W : World) (g : Nat), g = W.heap.size → Own (W.alloc (.cells #[.int .i64 1, .int .i64 4, .int .u64 low, .string ⟨#[]⟩, .int .i64 1, .int .i64 4, .int .u64 x.epoch, .string ⟨#[]⟩, .int .i64 1, .int .i64 1, .int .u64 x.members.length, .string ⟨#[]⟩] 93)) 93 4 (.slice (some ⟨g, 0, none⟩) 3 3) 3 (partCells (headParts low x)) :=
    fun W g hg => Own.lit W _ _ 4 3 g hg rfl (by decide)
  have HRd := hid hRd
  clear hRd
  have hwr : IntKind.u8.wrap (x.members.length : Int) = (x.members.length : Int) := by rw [IntKind.wrap_u8]; omega
  go_enter Try.func38, Try.ntmps38
  obtain ⟨p, cap, rfl⟩ := hs.form
  have Hs := hid hs
  clear hs
  go_wp2_with fail
  go_region_held3 (fun w' => w'.cell? ⟨w.heap.size, 0, none⟩ = some (.int .u32 x.epoch) ∧ w'.cell? ⟨w.heap.size, 1, none⟩ = some (.slice p x.members.length cap))
    (first | (apply cell_keep2 <;> assumption) | go_keep)
    (first | (go_at_call 61; refine (acceptor_wide _ (by omega) (by omega) _).mono ?_; rintro e w1 ⟨rfl, hk1⟩) | (go_at_call 37; refine (acceptor_small _ (by omega) (by omega) _).mono ?_; rintro e w2 ⟨rfl, hk2⟩))
  generalize hW : World.alloc w2 _ = W3
  have hB : Below (w.alloc (.cells (viewCells x (.slice p x.members.length cap)) 32)).heap.size (w.alloc (.cells (viewCells x (.slice p x.members.length cap)) 32)) W3 := by
    rw [← hW]; (repeat (first | exact pu_refl _ | assumption | refine pu_alloc ?_ _ | refine pu_drew ?_ | refine pu_drewN ?_ _ | refine pu_set ?_ (by simp; done) _ | (apply pu_trans; rotate_left; assumption)))
  have hown : Own W3 93 4 (.slice (some ⟨w2.heap.size, 0, none⟩) 3 3) 3 (partCells (headParts low x)) := by
    have := HRd.out w2 _ rfl
    rwa [hW] at this
  have hfr : Fresh (w.heap.size + 1) (.slice (some ⟨w2.heap.size, 0, none⟩) 3 3) := Fresh.at_ _ _ _ _ _ (by have h2 : Below (w.alloc (.cells (viewCells x (.slice p x.members.length cap)) 32)).heap.size (w.alloc (.cells (viewCells x (.slice p x.members.length cap)) 32)) w2 := (by (repeat (first | exact pu_refl _ | assumption | refine pu_alloc ?_ _ | refine pu_drew ?_ | refine pu_drewN ?_ _ | refine pu_set ?_ (by simp; done) _ | (apply pu_trans; rotate_left; assumption)))); have := h2.size; simp at this; omega)
  have hc1 : ∀ (i : Nat) (v : Value), (viewCells x (.slice p x.members.length cap))[i]? = some v → W3.cell? ⟨w.heap.size, i, none⟩ = some v := fun i v hv =>
    cell_keep hB (by rw [cell_of (alloc_new _ _)]; exact hv)
  have hcm := hc1 1 _ rfl
  clear hW hc1
  generalize w2.heap.size = g2 at *
  go_wp2
  have hbd : ∀ m ∈ x.members, m.fits := hmem
  have Hm := hid hbd
  clear hbd hmem hlives
  go_loopw [5, 23] (fun v i wr => ∃ k : Nat, k ≤ x.members.length ∧ i = .int .i64 k ∧ Own wr 93 4 v (3 + k * 3) (partCells (headParts low x ++ (x.members.take k).flatMap memParts)) ∧ Fresh (w.heap.size + 1) v ∧
      Below (w.alloc (.cells (viewCells x (.slice p x.members.length cap)) 32)).heap.size (w.alloc (.cells (viewCells x (.slice p x.members.length cap)) 32)) wr) (fun _ i _ => x.members.length - (intOf i).toNat)
  case atStart => exact ⟨0, by omega, rfl, by simpa using hown, hfr, hB⟩
  case round =>
    obtain ⟨k, hk, rfl, hown', hf, hb⟩ := hrel
    clear hown hfr hB hcm
    by_cases hlt : k < x.members.length
    · obtain ⟨g, o, rfl, hnc, hcap, hg, hcell⟩ := Hs.out.place (by omega)
      have hc : ∀ i v, x.members[k].cells[i]? = some v → i < 3 → wr.cell? ⟨g, o + (k * 3 + i), none⟩ = some v := fun i v hv hi =>
        cell_keep hb (cell_keep (below_alloc _ _) (hcell _ _ (by rw [memCells_at _ k i hlt hi]; exact hv)))
      have hc0 : wr.cell? ⟨g, o + k * 3, none⟩ = some (.int .u8 x.members[k].node) := hc 0 _ rfl (by omega)
      have hc1 : wr.cell? ⟨g, o + k * 3 + 1, none⟩ = some (.int .u8 x.members[k].life) := hc 1 _ rfl (by omega)
      have hc2 : wr.cell? ⟨g, o + k * 3 + 2, none⟩ = some (.bool x.members[k].ready) := hc 2 _ rfl (by omega)
      have hfit := Hm.out _ (List.getElem_mem hlt)
      have Hmk : Hid (∃ m, x.members[k] = m ∧ (x.members.take (k + 1)).flatMap memParts = (x.members.take k).flatMap memParts ++ memParts m) := ⟨_, rfl, by
        rw [List.take_succ_eq_append_getElem hlt, List.flatMap_append]; simp⟩
      obtain ⟨m, hm, hsn⟩ := Hmk
      rw [hm] at hc0 hc1 hc2 hfit
      have Hsn := hid hsn
      clear hc hcell hm hsn
      obtain ⟨nd, lf, rd⟩ := m
      obtain ⟨hm1, hm2⟩ := hfit
      dsimp only at hc0 hc1 hc2 hm1 hm2
      have hnw : ¬ u5.ownBlock = some wr.heap.size := fun h => by have := hown'.lt h; omega
      have hRd3 : ∀ (W : World) (g : Nat) (f : Int), g = W.heap.size → Rd (W.alloc (.cells #[.int .i64 1, .int .i64 1, .int .u64 nd, .string ⟨#[]⟩, .int .i64 1, .int .i64 1, .int .u64 lf, .string ⟨#[]⟩, .int .i64 1, .int .i64 1, .int .u64 f, .string ⟨#[]⟩] 93)) 4 (.slice (some ⟨g, 0, none⟩) 3 3) 3 (partCells [Part.num nd 1, Part.num lf 1, Part.num f 1]) :=
        fun W g f hg => Rd.lit W _ _ 4 3 g hg rfl (by decide)
      have HRd3 := hid hRd3
      have Hown := hid hown'
      have hlen : 3 + k * 3 ≤ 30 := by omega
      clear hRd3 hown'
      cases rd
      · go_wp2_with fail
        go_region_held3 (fun w' => w'.cell? ⟨wr.heap.size, 0, none⟩ = some (.int .u8 nd) ∧ w'.cell? ⟨wr.heap.size, 1, none⟩ = some (.int .u8 lf))
          (first | (apply cell_keep2 <;> assumption) | (refine kp_keep2 hap.kp ?_ ?_ <;> assumption) | go_keep)
          (first | (go_at_call 37; refine (acceptor_small _ (by omega) (by omega) _).mono ?_; rintro e w2 ⟨rfl, hk2⟩) | (refine step_app rfl _ _ rfl sl_parts u5 _ _ rfl (Hown.out.below (by (repeat (first | exact pu_refl _ | assumption | refine pu_alloc ?_ _ | refine pu_drew ?_ | refine pu_drewN ?_ _ | refine pu_set ?_ (by simp; done) _ | (apply pu_trans; rotate_left; assumption))))) _ 3 _ rfl (HRd3.out _ _ 0 rfl) (partCells_one _) (by unfold maxLen; omega) (by omega) ?_; intro v2 w3 hap))
        go_wp2
        have hb2 : Below wr.heap.size wr (w2.alloc (.cells #[.int .i64 1, .int .i64 1, .int .u64 nd, .string ⟨#[]⟩, .int .i64 1, .int .i64 1, .int .u64 lf, .string ⟨#[]⟩, .int .i64 1, .int .i64 1, .int .u64 0, .string ⟨#[]⟩] 93)) := by (repeat (first | exact pu_refl _ | assumption | refine pu_alloc ?_ _ | refine pu_drew ?_ | refine pu_drewN ?_ _ | refine pu_set ?_ (by simp; done) _ | (apply pu_trans; rotate_left; assumption)))
        have hz1 := hb.size
        have hz2 := hb2.size
        simp only [World.size_alloc] at hz1
        go_roundw
        case rel => exact ⟨k + 1, by omega, by go_num, by
          have := hap.own
          rw [Hsn.out, ← List.append_assoc, partCells_append (_ ++ _)]
          rw [show 3 + (k + 1) * 3 = 3 + k * 3 + 3 from by omega]
          exact this, hap.fresh hf (by omega), (hb.trans (hb2.mono hb.size)).trans (hap.below (by simpa using hf) (by simp only [World.size_alloc]; simp only [World.size_alloc] at hz2; omega))⟩
        case measure => simp [intOf]; omega
      · go_wp2_with fail
        go_region_held3 (fun w' => w'.cell? ⟨wr.heap.size, 0, none⟩ = some (.int .u8 nd) ∧ w'.cell? ⟨wr.heap.size, 1, none⟩ = some (.int .u8 lf))
          (first | (apply cell_keep2 <;> assumption) | (refine kp_keep2 hap.kp ?_ ?_ <;> assumption) | go_keep)
          (first | (go_at_call 37; refine (acceptor_small _ (by omega) (by omega) _).mono ?_; rintro e w2 ⟨rfl, hk2⟩) | (refine step_app rfl _ _ rfl sl_parts u5 _ _ rfl (Hown.out.below (by (repeat (first | exact pu_refl _ | assumption | refine pu_alloc ?_ _ | refine pu_drew ?_ | refine pu_drewN ?_ _ | refine pu_set ?_ (by simp; done) _ | (apply pu_trans; rotate_left; assumption))))) _ 3 _ rfl (HRd3.out _ _ 1 rfl) (partCells_one _) (by unfold maxLen; omega) (by omega) ?_; intro v2 w3 hap))
        go_wp2
        have hb2 : Below wr.heap.size wr (w2.alloc (.cells #[.int .i64 1, .int .i64 1, .int .u64 nd, .string ⟨#[]⟩, .int .i64 1, .int .i64 1, .int .u64 lf, .string ⟨#[]⟩, .int .i64 1, .int .i64 1, .int .u64 1, .string ⟨#[]⟩] 93)) := by (repeat (first | exact pu_refl _ | assumption | refine pu_alloc ?_ _ | refine pu_drew ?_ | refine pu_drewN ?_ _ | refine pu_set ?_ (by simp; done) _ | (apply pu_trans; rotate_left; assumption)))
        have hz1 := hb.size
        have hz2 := hb2.size
        simp only [World.size_alloc] at hz1
        go_roundw
        case rel => exact ⟨k + 1, by omega, by go_num, by
          have := hap.own
          rw [Hsn.out, ← List.append_assoc, partCells_append (_ ++ _)]
          rw [show 3 + (k + 1) * 3 = 3 + k * 3 + 3 from by omega]
          exact this, hap.fresh hf (by omega), (hb.trans (hb2.mono hb.size)).trans (hap.below (by simpa using hf) (by simp only [World.size_alloc]; simp only [World.size_alloc] at hz2; omega))⟩
        case measure => simp [intOf]; omega
    · obtain rfl : k = x.members.length := by omega
      have hcl : ∀ (i : Nat) (v : Value), (viewCells x (.slice p x.members.length cap))[i]? = some v → wr.cell? ⟨w.heap.size, i, none⟩ = some v := fun i v hv =>
        cell_keep hb (by rw [cell_of (alloc_new _ _)]; exact hv)
      have hrd : Rd wr 1 (.slice (some ⟨w.heap.size, 2, none⟩) 8 8) 8 (byteVals (livesBytes x)) := by
        refine ⟨by simp [byteVals, livesBytes], .inr ⟨_, 2, 8, rfl, by omega, by decide, by have := hb.size; simp at this; omega, fun j u hj => ?_⟩⟩
        have hlv : ∀ i, ((UInt8.ofNat (x.l i).toNat).toNat : Int) = x.l i := fun i => by
          have h1 := Hl.out i
          simp; omega
        have hj8 : j < 8 := by
          rcases Nat.lt_or_ge j 8 with h | h
          · exact h
          · rw [List.getElem?_eq_none (by simpa [byteVals, livesBytes] using h)] at hj; cases hj
        have hu : u = .int .u8 (x.l j) := by
          simp only [byteVals, livesBytes, List.map_map, List.getElem?_map, List.getElem?_range hj8, Option.map_some, Function.comp, hlv] at hj
          simpa using hj.symm
        subst hu
        refine hcl (2 + j) _ ?_
        rcases j with _ | _ | _ | _ | _ | _ | _ | _ | j <;> first | rfl | omega
      have HRdr : ∀ (W : World) (g : Nat), g = W.heap.size → Rd (W.alloc (.cells #[.int .i64 3, .int .i64 0, .int .u64 0, str (livesBytes x)] 93)) 4 (.slice (some ⟨g, 0, none⟩) 1 1) 1 (partCells [Part.raw (livesBytes x)]) :=
        fun W g hg => Rd.lit W _ _ 4 1 g hg rfl (by decide)
      have Hrd := hid hrd
      clear hrd hcl
      go_wp2_with (refine w_bytesstr rfl _ rfl _ _ _ rfl Hrd.out ?_)
      refine (octet_Raw _ _).mono ?_
      rintro e w4 ⟨rfl, hk4⟩
      have Hown := hid hown'
      have HR := hid HRdr
      clear hown' HRdr
      go_wp2_with (at_builtin; refine wpList_app rfl _ _ rfl sl_parts u5 _ _ rfl (Hown.out.below (by (repeat (first | exact pu_refl _ | assumption | refine pu_alloc ?_ _ | refine pu_drew ?_ | refine pu_drewN ?_ _ | refine pu_set ?_ (by simp; done) _ | (apply pu_trans; rotate_left; assumption))))) _ 1 _ rfl (HR.out _ _ rfl) (partCells_one _) (by unfold maxLen; omega) (by omega) ?_; intro v5 w5 hap)
      go_ret
      have hz1 := hb.size
      have hz2 := hk4.size
      simp only [World.size_alloc] at hz1
      refine ⟨v5, rfl, ?_, (hap.fresh hf (by simp; omega)).mono (by omega), ?_⟩
      · have := hap.own
        rw [List.take_length] at this
        rw [viewParts_length, viewParts, partCells_append (_ ++ _)]
        rw [show 4 + x.members.length * 3 = 3 + x.members.length * 3 + 1 from by omega]
        exact this
      · have hbw : Below w.heap.size w (w4.alloc (.cells #[.int .i64 3, .int .i64 0, .int .u64 0, str (livesBytes x)] 93)) := by
          refine pu_alloc (pu_trans (pu_trans (pu_alloc (pu_refl w) _) hb) hk4) _
        exact hbw.trans (hap.below (hf.mono (by omega)) (by simp; omega))
end Go.Proofs.Ytlpnomejpaoeaaa
