/- Package acceptor: Make. -/
import Derived.Test.YtlpnomejpaoeaaaMake
namespace Go.Proofs.Ytlpnomejpaoeaaa
set_option linter.unusedSimpArgs false
set_option linter.unusedVariables false
open Go.RowKit
set_option maxHeartbeats 400000
set_option maxRecDepth 20000

theorem acceptor_Make_bad (self : Int) (hself : goodB self = false) (x : Value) (v : View) (s : Value) (w : World) (hs : Rd w 3 s v.members.length (memCells v.members)) :
    Calls Try.prog 8 #[x, .int .u8 self, .agg (viewCells v s)] w fun e w' => e = .returned (.int .i64 1) ∧ Below w.heap.size w w' := by
  obtain ⟨p, cap, rfl⟩ := hs.form
  clear hs
  have hb := below_alloc w (.cells (viewCells v (.slice p v.members.length cap)) 32)
  have Hb := hid hb
  clear hb
  go_enter Try.func8, Try.ntmps8
  go_wp2_with fail
  refine (acceptor_good self _).mono ?_
  rintro e w0 ⟨rfl, rfl⟩
  rw [hself]
  go_wp2
  go_ret
  exact ⟨rfl, Hb.out⟩
theorem acceptor_Make_wide (self : Int) (hself : goodB self = true) (x : Value) (v : View) (hv : ¬ v.members.length ≤ 8) (s : Value) (w : World) (hs : Rd w 3 s v.members.length (memCells v.members)) :
    Calls Try.prog 8 #[x, .int .u8 self, .agg (viewCells v s)] w fun e w' => e = .returned (.int .i64 1) ∧ Below w.heap.size w w' := by
  obtain ⟨p, cap, rfl⟩ := hs.form
  have Hs := hid hs
  have hdec : decide (v.members.length ≤ 8) = false := by simpa using hv
  clear hs
  go_enter Try.func8, Try.ntmps8
  go_wp2_with fail
  refine (acceptor_good self _).mono ?_
  rintro e w0 ⟨rfl, rfl⟩
  rw [hself]
  go_wp2_with fail
  refine (acceptor_holds v _ _ (Hs.out.below (below_alloc _ _))).mono ?_
  rintro e w1 ⟨rfl, hk1⟩
  rw [hdec]
  have hbw1 : Below w.heap.size w w1 := pu_trans (below_alloc _ _) hk1
  go_wp2
  go_ret
  exact ⟨rfl, hbw1⟩
theorem acceptor_Make_off (self : Int) (hself : goodB self = true) (d : Nat) (t : Bytes) (lasts : Int) (v : View) (hv : v.members.length ≤ 8) (s : Value) (w : World) (hd : DiskAt w d t lasts true) (hs : Rd w 3 s v.members.length (memCells v.members)) :
    Calls Try.prog 8 #[rptr d, .int .u8 self, .agg (viewCells v s)] w fun e w' => e = .returned (.int .i64 10) ∧ Below w.heap.size w w' := by
  obtain ⟨p, cap, rfl⟩ := hs.form
  have Hs := hid hs
  have Hd := hid hd
  have hdec : decide (v.members.length ≤ 8) = true := by simpa using hv
  clear hs hd
  go_enter Try.func8, Try.ntmps8
  go_wp2_with fail
  refine (acceptor_good self _).mono ?_
  rintro e w0 ⟨rfl, rfl⟩
  rw [hself]
  go_wp2_with fail
  refine (acceptor_holds v _ _ (Hs.out.below (below_alloc _ _))).mono ?_
  rintro e w1 ⟨rfl, hk1⟩
  rw [hdec]
  have hbw1 : Below w.heap.size w w1 := pu_trans (below_alloc _ _) hk1
  go_wp2_with fail
  refine (journal_Open_off d t lasts _ (Hd.out.below hbw1)).mono ?_
  rintro e w2 ⟨rfl, rfl⟩
  go_wp2
  go_ret
  exact ⟨rfl, hbw1⟩
theorem acceptor_Make_has (self : Int) (hself : goodB self = true) (d : Nat) (l : List Bytes) (hl : RecsOk l) (hlen : (diskBytes l).length ≤ 990000) (hpos : 0 < l.length) (hln : l.length ≤ 10000) (lasts : Int) (v : View) (hv : v.members.length ≤ 8) (s : Value) (w : World) (hd : DiskAt w d (diskBytes l) lasts false) (hs : Rd w 3 s v.members.length (memCells v.members)) :
    Calls Try.prog 8 #[rptr d, .int .u8 self, .agg (viewCells v s)] w fun e w' => e = .returned (.int .i64 8) ∧ DiskSame w d (diskBytes l) w' := by
  obtain ⟨p, cap, rfl⟩ := hs.form
  have Hs := hid hs
  have Hd := hid hd
  have hdec : decide (v.members.length ≤ 8) = true := by simpa using hv
  clear hs hd
  go_enter Try.func8, Try.ntmps8
  go_wp2_with fail
  refine (acceptor_good self _).mono ?_
  rintro e w0 ⟨rfl, rfl⟩
  rw [hself]
  go_wp2_with fail
  refine (acceptor_holds v _ _ (Hs.out.below (below_alloc _ _))).mono ?_
  rintro e w1 ⟨rfl, hk1⟩
  rw [hdec]
  have hbw1 : Below w.heap.size w w1 := pu_trans (below_alloc _ _) hk1
  go_wp2_with fail
  refine (journal_Open d l lasts _ (Hd.out.below hbw1) hl hlen).mono ?_
  rintro e w2 ⟨v1, rfl, hj1, hd1, hf1, hnv1, hk2⟩
  go_wp2_with fail
  refine (journal_Records _ d v1 l false _ hj1 (by omega)).mono ?_
  rintro e w3 ⟨v2, rfl, ho2, hf2, hb3⟩
  obtain ⟨p2, cap2, rfl⟩ := ho2.form
  go_wp2
  go_ret
  exact ⟨rfl, hd1.below hb3, ((Kp.of_below hbw1).trans hk2).then (T := fun _ => False) (Kp.of_below hb3) (fun _ _ f => f.elim)⟩

/-- A disk was made a master's. -/
def Made (w : World) (d : Nat) (l : List Rec) (e : Ending) (w' : World) : Prop := e = .returned (.int .i64 0) ∧ DiskAt w' d (diskBytes (texts l)) (diskBytes (texts l)).length false ∧ Only d w w'

theorem rd_birth {w w' : World} {e : TypeId} {v0 v6 : Value} {self : Int} {v : View} (h : Appended w w' e 4 v0 v6 (1 + (viewParts 0 v).length) (partCells [Part.num self 1] ++ partCells (viewParts 0 v))) :
    Rd w' 4 v6 (Part.num self 1 :: viewParts 0 v).length (partCells (Part.num self 1 :: viewParts 0 v)) := by
  have := h.own.rd
  rw [Nat.add_comm] at this
  simpa [partCells] using this

set_option maxHeartbeats 4000000 in
theorem acceptor_Make (d : Nat) (self : Int) (hself : 1 ≤ self ∧ self ≤ 5) (v : View) (hv : v.good) (s : Value) (lasts : Int) (w : World) (hd : DiskAt w d [] lasts false) (hs : Rd w 3 s v.members.length (memCells v.members)) (hsd : ¬ s.ownBlock = some d) :
    Calls Try.prog 8 #[rptr d, .int .u8 self, .agg (viewCells v s)] w (Made w d [.birth self v]) := by
  have hgood : goodB self = true := by simp [goodB, hself.1, hself.2]
  obtain ⟨p, cap, rfl⟩ := hs.form
  have Hs := hid hs
  have Hd := hid hd
  have Hv := hid hv
  have hdec : decide (v.members.length ≤ 8) = true := by simpa using hv.2
  have hvp := hid (viewParts_ok 0 (by omega) v hv)
  have hvl := viewParts_length 0 v
  have hv8 := hv.2
  clear hs hd hv
  go_enter Try.func8, Try.ntmps8
  go_wp2_with fail
  refine (acceptor_good self _).mono ?_
  rintro e w0 ⟨rfl, rfl⟩
  rw [hgood]
  go_wp2_with fail
  refine (acceptor_holds v _ _ (Hs.out.below (below_alloc _ _))).mono ?_
  rintro e w1 ⟨rfl, hk1⟩
  rw [hdec]
  have hbw1 : Below w.heap.size w w1 := pu_trans (below_alloc _ _) hk1
  have g1 : w1.heap[w.heap.size]? = some (.cells (viewCells v (.slice p v.members.length cap)) 32 (0, 0)) := (hk1.block _ (by simp)).trans (alloc_new w _)
  have hdlt := Hd.out.lt
  go_wp2_with fail
  refine (journal_Open d [] lasts _ (Hd.out.below hbw1) (fun r hr => by cases hr) (by simp [diskBytes])).mono ?_
  rintro e w2 ⟨v1, rfl, hj1, hd1, hf1, hnv1, hk2⟩
  go_wp2_with fail
  refine (journal_Records _ d v1 [] false _ hj1 (by simp)).mono ?_
  rintro e w3 ⟨v2, rfl, ho2, hf2, hb3⟩
  obtain ⟨p2, cap2, rfl⟩ := ho2.form
  have g2 := hk2.heap g1 (by omega)
  have g3 := (hb3.block _ (lt_of_block g2)).trans g2
  have hj3 := hj1.below hb3
  have hd3 := hd1.below hb3
  have hz1 := hbw1.size
  have hzb := lt_of_block g1
  have hapart : Apart3 w1.heap.size d v1 := ⟨fun e => by omega, hnv1, fun e => by have := hf1 _ e; omega⟩
  have hrs3 : Rd w3 3 (.slice p v.members.length cap) v.members.length (memCells v.members) := ((Hs.out.below hbw1).kept hk2 (fun k hk e => hsd (by rw [← e]; exact hk))).below hb3
  have Hj3 := hid hj3
  have Hd3 := hid hd3
  have Hrs3 := hid hrs3
  have G3 := hid g3
  have Hap := hid hapart
  clear hj3 hd3 hrs3 hj1 hd1 g1 g2 hapart
  have e0 : w3.cell? ⟨w.heap.size, 0, none⟩ = some (.int .u32 v.epoch) := by rw [cell_of G3.out]; rfl
  have e1 : w3.cell? ⟨w.heap.size, 1, none⟩ = some (.slice p v.members.length cap) := by rw [cell_of G3.out]; rfl
  have e2 : w3.cell? ⟨w.heap.size, 2, none⟩ = some (.int .u8 (v.l 0)) := by rw [cell_of G3.out]; rfl
  have e3 : w3.cell? ⟨w.heap.size, 3, none⟩ = some (.int .u8 (v.l 1)) := by rw [cell_of G3.out]; rfl
  have e4 : w3.cell? ⟨w.heap.size, 4, none⟩ = some (.int .u8 (v.l 2)) := by rw [cell_of G3.out]; rfl
  have e5 : w3.cell? ⟨w.heap.size, 5, none⟩ = some (.int .u8 (v.l 3)) := by rw [cell_of G3.out]; rfl
  have e6 : w3.cell? ⟨w.heap.size, 6, none⟩ = some (.int .u8 (v.l 4)) := by rw [cell_of G3.out]; rfl
  have e7 : w3.cell? ⟨w.heap.size, 7, none⟩ = some (.int .u8 (v.l 5)) := by rw [cell_of G3.out]; rfl
  have e8 : w3.cell? ⟨w.heap.size, 8, none⟩ = some (.int .u8 (v.l 6)) := by rw [cell_of G3.out]; rfl
  have e9 : w3.cell? ⟨w.heap.size, 9, none⟩ = some (.int .u8 (v.l 7)) := by rw [cell_of G3.out]; rfl
  have hz2 := hk2.size
  have hz3 := hb3.size
  have hown : ∀ (W : World) (g : Nat), g = W.heap.size → Own (W.alloc (.cells #[.int .i64 1, .int .i64 1, .int .u64 self, .string ⟨#[]⟩] 93)) 93 4 (.slice (some ⟨g, 0, none⟩) 1 1) 1 (partCells [Part.num self 1]) :=
    fun W g hg => Own.lit W _ _ 4 1 g hg rfl (by decide)
  have HOwn := hid hown
  have hpok : ∀ p ∈ (Part.num self 1 :: viewParts 0 v), p.ok := by
    intro p hp
    rcases List.mem_cons.1 hp with rfl | hp
    · exact ok1 (by omega)
    · exact hvp.out p hp
  have Hpok := hid hpok
  have hrl : 1 ≤ (record 1 (Part.num self 1 :: viewParts 0 v)).length ∧ (record 1 (Part.num self 1 :: viewParts 0 v)).length ≤ 512 := by
    rw [record_birth]
    have := (Rec.birth self v).len ⟨by omega, Hv.out⟩
    omega
  have Hrl := hid hrl
  have hnj : ¬ JSet w1.heap.size d v1 w.heap.size := by
    rintro (e | e | e)
    · omega
    · omega
    · have := hf1 _ e; omega
  clear hown hpok hrl
  go_wp2_with fail
  go_region_held3 (fun w' => w'.cell? ⟨w.heap.size, 0, none⟩ = some (.int .u32 v.epoch) ∧ w'.cell? ⟨w.heap.size, 1, none⟩ = some (.slice p v.members.length cap) ∧ w'.cell? ⟨w.heap.size, 2, none⟩ = some (.int .u8 (v.l 0)) ∧ w'.cell? ⟨w.heap.size, 3, none⟩ = some (.int .u8 (v.l 1)) ∧ w'.cell? ⟨w.heap.size, 4, none⟩ = some (.int .u8 (v.l 2)) ∧ w'.cell? ⟨w.heap.size, 5, none⟩ = some (.int .u8 (v.l 3)) ∧ w'.cell? ⟨w.heap.size, 6, none⟩ = some (.int .u8 (v.l 4)) ∧ w'.cell? ⟨w.heap.size, 7, none⟩ = some (.int .u8 (v.l 5)) ∧ w'.cell? ⟨w.heap.size, 8, none⟩ = some (.int .u8 (v.l 6)) ∧ w'.cell? ⟨w.heap.size, 9, none⟩ = some (.int .u8 (v.l 7)))
    (first | (apply cell_keep10 <;> assumption) | (exact kp_keep10 hap.kp hng ⟨hq.1, hq.2.1, hq.2.2.1, hq.2.2.2.1, hq.2.2.2.2.1, hq.2.2.2.2.2.1, hq.2.2.2.2.2.2.1, hq.2.2.2.2.2.2.2.1, hq.2.2.2.2.2.2.2.2.1, hq.2.2.2.2.2.2.2.2.2⟩) | (refine kp_keep10 hap.kp hng ?_; first | assumption | (apply cell_keep10 <;> assumption)) | (refine kp_keep10 hk8 hnj ?_; assumption) | go_keep)
    (first | (go_at_call 37; refine (acceptor_small _ (by omega) (by omega) _).mono ?_; rintro e w4 ⟨rfl, hk4⟩; have hz4 : w3.heap.size ≤ w4.heap.size := hk4.size)  | (go_at_call 38; refine (acceptor_parts 0 (by omega) v Hv.out.1 Hv.out.2 _ _ (Hrs3.out.below (by (repeat (first | exact pu_refl _ | assumption | refine pu_alloc ?_ _ | refine pu_drew ?_ | refine pu_drewN ?_ _ | refine pu_set ?_ (by simp; done) _ | (apply pu_trans; rotate_left; assumption)))))).mono ?_; rintro e w5 ⟨s5, rfl, ho5, hf5, hk5⟩; have hz5 := hk5.size; (try simp only [World.size_alloc] at hz5))  | (refine step_app rfl _ _ rfl sl_parts _ _ _ rfl ((HOwn.out w4 _ rfl).below hk5) _ _ _ rfl ho5.rd (partCells_one _) (by unfold maxLen; omega) (by omega) ?_; intro v6 w6 hap; have hng : ¬ (Value.slice (some ⟨w4.heap.size, 0, none⟩) 1 1).ownBlock = some w.heap.size := (by simp [Value.ownBlock]; omega); have hb6 : Below w3.heap.size w3 w6 := Below.trans (by (repeat (first | exact pu_refl _ | assumption | refine pu_alloc ?_ _ | refine pu_drew ?_ | refine pu_drewN ?_ _ | refine pu_set ?_ (by simp; done) _ | (apply pu_trans; rotate_left; assumption)))) (hap.below (B := w3.heap.size) (Fresh.at_ _ _ _ _ _ (by omega)) (by omega)))  | (refine step_app rfl _ _ rfl sl_parts _ _ _ rfl (HOwn.out w5 _ rfl) _ _ _ rfl (ho5.rd.below (below_alloc _ _)) (partCells_one _) (by unfold maxLen; omega) (by omega) ?_; intro v6 w6 hap; have hng : ¬ (Value.slice (some ⟨w5.heap.size, 0, none⟩) 1 1).ownBlock = some w.heap.size := (by simp [Value.ownBlock]; omega); have hb6 : Below w3.heap.size w3 w6 := Below.trans (by (repeat (first | exact pu_refl _ | assumption | refine pu_alloc ?_ _ | refine pu_drew ?_ | refine pu_drewN ?_ _ | refine pu_set ?_ (by simp; done) _ | (apply pu_trans; rotate_left; assumption)))) (hap.below (B := w3.heap.size) (Fresh.at_ _ _ _ _ _ (by omega)) (by simp; omega)))  | (go_at_call 36; refine (acceptor_record 1 (by omega) (by omega) (Part.num self 1 :: viewParts 0 v) Hpok.out (by simp [hvl]; omega) v6 _ (rd_birth hap)).mono ?_; rintro e w7 ⟨rfl, hk7⟩)  | (go_at_call 35; refine (journal_Add w1.heap.size d v1 [] _ [] (record 1 (Part.num self 1 :: viewParts 0 v)) _ (Hj3.out.below (pu_trans hb6 hk7)) (Hd3.out.below (pu_trans hb6 hk7)) Hap.out Hrl.out.1 Hrl.out.2 (by have := Hrl.out.2; simp; omega) (by simp)).mono ?_; rintro e w8 ⟨v8, rfl, hj8, hd8, hk8, hap8, hv8⟩))
  all_goals
    have h3 : Only d w w3 := ((Kp.of_below hbw1).trans hk2).then (T := fun _ => False) (Kp.of_below hb3) (fun _ _ f => f.elim)
    have h7 : Only d w w7 := h3.then (T := fun _ => False) (Kp.of_below (pu_trans hb6 hk7)) (fun _ _ f => f.elim)
    have h8 : Only d w w8 := h7.then hk8 (fun k hk e => by
      rcases e with e | e | e
      · omega
      · exact e
      · have := hf1 _ e; omega)
    have hdb : [] ++ framed (record 1 (Part.num self 1 :: viewParts 0 v)) = diskBytes (texts [Rec.birth self v]) := by
      rw [record_birth]; simp [texts, diskBytes]
    rw [hdb] at hd8
    go_wp2
    go_ret
    exact ⟨rfl, hd8, h8⟩
end Go.Proofs.Ytlpnomejpaoeaaa
