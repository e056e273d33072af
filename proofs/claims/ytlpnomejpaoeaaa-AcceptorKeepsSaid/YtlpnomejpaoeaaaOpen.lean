/- Package acceptor: Open. -/
import Derived.Test.YtlpnomejpaoeaaaAct3
namespace Go.Proofs.Ytlpnomejpaoeaaa
set_option linter.unusedSimpArgs false
set_option linter.unusedVariables false
open Go.RowKit
set_option maxHeartbeats 400000
set_option maxRecDepth 20000

/-- An acceptor was opened. -/
def AcOpened (w : World) (d : Nat) (l : List Rec) (e : Ending) (w' : World) : Prop :=
  ∃ a : Ac, e = .returned (.tuple #[rptr a.A, .int .i64 0]) ∧ a.d = d ∧ AcIs w' a l false false ∧ Only d w w' ∧ (∀ k, a.K k → k = d ∨ w.heap.size ≤ k) ∧ ∀ k, a.s.ownBlock = some k → w.heap.size ≤ k

theorem accAt_new (W : World) (j m : Nat) (hm : MapIs .u32 W m []) :
    AccAt (W.alloc (.cells (accArr j Ballot.zero 0 View.none (.slice none 0 0) m) 101)) W.heap.size j St.init (.slice none 0 0) m :=
  ⟨alloc_new _ _, Rd.nil _ _, hm.below (below_alloc _ _), fun e => by have := hm.lt; omega, by simp [Value.ownBlock], by simp [Value.ownBlock]⟩

set_option maxHeartbeats 2000000 in
theorem acceptor_Open (d : Nat) (self : Int) (hself : 1 ≤ self ∧ self ≤ 5) (v0 : View) (l0 : List Rec) (lasts : Int) (w : World) (hd : DiskAt w d (diskBytes (texts (.birth self v0 :: l0))) lasts false) (hl : Fits (.birth self v0 :: l0)) (hn : l0.length ≤ 10000) :
    Calls Try.prog 10 #[rptr d, .int .u8 self] w (AcOpened w d (.birth self v0 :: l0)) := by
  have hgood : goodB self = true := by simp [goodB, hself.1, hself.2]
  have hdlt := hd.lt
  have Hd := hid hd
  have Hl := hid hl
  have Hfit := hid (hl (.birth self v0) (by simp))
  have hdl := disk_len hl
  have hne : (Rec.birth self v0 :: l0).length = l0.length + 1 := rfl
  rw [hne] at hdl
  have Hok := hid hl.ok
  have hhead : (texts (Rec.birth self v0 :: l0))[0]? = some (Rec.birth self v0).bytes := rfl
  have htl : (texts (Rec.birth self v0 :: l0)).length = l0.length + 1 := by simp [texts]
  clear hd hl
  generalize hL : Rec.birth self v0 :: l0 = l at *
  go_enter Try.func10, Try.ntmps10
  go_wp2_with fail
  refine (acceptor_good self _).mono ?_
  rintro e w0 ⟨rfl, rfl⟩
  rw [hgood]
  go_wp2_with fail
  refine (journal_Open d (texts l) lasts _ Hd.out Hok.out (by omega)).mono ?_
  rintro e w1 ⟨v1, rfl, hj1, hd1, hf1, hnv1, hk1⟩
  go_wp2_with fail
  refine (journal_Records _ d v1 (texts l) false _ hj1 (by omega)).mono ?_
  rintro e w2 ⟨v2, rfl, ho2, hf2, hb2⟩
  obtain ⟨p2, cap2, rfl⟩ := ho2.form
  obtain ⟨g2, o2, rfl, hnc2, hcm2, hg2, hcell2⟩ := ho2.rd.place (by omega)
  have hc0 : w2.cell? ⟨g2, o2, none⟩ = some (str (Rec.birth self v0).bytes) := by
    have := hcell2 0 (str (Rec.birth self v0).bytes) (by simp [strCells, hhead])
    simpa using this
  have hlpos : (0 : Int) < (texts l).length := by omega
  go_wp2_with fail
  refine (acceptor_owner self Hfit.out.1 v0 Hfit.out.2 _).mono ?_
  rintro e w3 ⟨rfl, hb3⟩
  have hk23 : Below w1.heap.size w1 w3 := pu_trans hb2 hb3
  have hj3 := hj1.below hk23
  have hd3 := hd1.below hk23
  have hrd3 := ho2.rd.below hb3
  have hz13 := hk23.size
  have hz1 := hk1.size
  have hjlt := hj1.lt
  have hm3 := MapIs.new .u32 w3
  have Hj3 := hid hj3
  have Hd3 := hid hd3
  have Hm3 := hid hm3
  have Hrd3 := hid hrd3
  have Hk1 := hid hk1
  clear hj3 hd3 hm3 hj1 hd1 ho2 hc0 hcell2 hrd3 hk1
  go_wp2_with (refine wpList_mkmap rfl _ rfl rfl mp_entries ?_)
  have hllen : l.length = l0.length + 1 := by rw [← hL]; rfl
  have hm4 : MapIs .u32 (w3.alloc (.map #[] 0)) w3.heap.size [] := MapIs.new .u32 w3
  have hacc0 := accAt_new (w3.alloc (.map #[] 0)) w.heap.size w3.heap.size hm4
  have hsz4 : (w3.alloc (.map #[] 0)).heap.size = w3.heap.size + 1 := by simp
  rw [hsz4] at hacc0
  have hb40 : Below w3.heap.size w3 ((w3.alloc (.map #[] 0)).alloc (.cells (accArr w.heap.size Ballot.zero 0 View.none (.slice none 0 0) w3.heap.size) 101)) := pu_alloc (pu_alloc (pu_refl w3) _) _
  have Hacc0 := hid hacc0
  have Hb40 := hid hb40
  clear hacc0 hb40 hm4
  go_loopw [43] (fun i wr => ∃ (k : Nat) (s' : Value), k ≤ l.length ∧ i = .int .i64 k ∧ AccAt wr (w3.heap.size + 1) w.heap.size (replay (l.take k)) s' w3.heap.size ∧ Below w3.heap.size w3 wr ∧ Fresh w3.heap.size s') (fun i _ => l.length - (intOf i).toNat)
  case atStart => exact ⟨0, _, by omega, rfl, Hacc0.out, Hb40.out, Fresh.nil _⟩
  case round =>
    obtain ⟨k, s', hk, rfl, hacc, hbr, hfs⟩ := hrel
    clear Hacc0 Hb40
    by_cases hlt : k < l.length
    · rcases Hrd3.out.2 with ⟨hx, _⟩ | ⟨g', o', c', hx, _, _, hg3, hcell3⟩
      · cases hx
      cases hx
      have hkt : (strCells (texts l))[k]? = some (str l[k].bytes) := by simp [strCells, texts, hlt]
      have hck : wr.cell? ⟨g2, o2 + k, none⟩ = some (str l[k].bytes) := by
        rw [hbr.cell (p := ⟨g2, o2 + k, none⟩) hg3]; exact hcell3 k _ hkt
      have hklt : (k : Int) < l0.length + 1 := by omega
      have Hacc := hid hacc
      clear hacc hcell3
      go_wp2_with fail
      refine (state_take (w3.heap.size + 1) w.heap.size (replay (l.take k)) s' w3.heap.size l[k] (Hl.out _ (List.getElem_mem hlt)) _ Hacc.out).mono ?_
      rintro e w5 ⟨s5, rfl, hacc5, hk5, hs5⟩
      go_wp2_with fail
      go_roundw
      case rel =>
        refine ⟨k + 1, s5, by omega, by go_num, ?_, ?_, ?_⟩
        · rw [List.take_succ_eq_append_getElem hlt, replay_snoc]; exact hacc5
        · exact ⟨hk5.os.trans hbr.os, hk5.tape.trans hbr.tape, hk5.output.trans hbr.output, Nat.le_trans hbr.size hk5.size, fun i hi => (hk5.block i (Nat.lt_of_lt_of_le hi hbr.size) (by rintro (e | e) <;> omega)).trans (hbr.block i hi)⟩
        · intro q hq
          rcases hs5 q hq with h | h
          · exact hfs q h
          · have := hbr.size; omega
      case measure => simp [intOf]; omega
    · obtain rfl : k = l.length := by omega
      rw [List.take_length] at hacc
      have hkge : ¬ ((l.length : Int) < l0.length + 1) := by omega
      have Hacc := hid hacc
      clear hacc
      go_wp2
      go_ret2
      have hAlt := Hacc.out.lt
      have hd9 := Hd3.out.below hbr
      have hj9 := Hj3.out.below hbr
      have hk9 : Only d w wr := Hk1.out.then (T := fun _ => False) (Kp.of_below (pu_trans hk23 hbr)) (fun _ _ f => f.elim)
      have hvl : ∀ q, v1.ownBlock = some q → w.heap.size ≤ q ∧ q < w3.heap.size := fun q hq => ⟨hf1 q hq, Hj3.out.own.lt hq⟩
      refine ⟨⟨w3.heap.size + 1, d, w.heap.size, w3.heap.size, s', v1⟩, rfl, rfl, ⟨Hacc.out, hj9, hd9, ⟨?_, hnv1, ?_⟩, ?_, ?_, ?_, ?_, ?_, ?_, ?_, ?_, ?_⟩, hk9, ?_, ?_⟩
      · exact fun e => by have : w.heap.size = d := e; omega
      · exact fun e => by have h : w.heap.size ≤ d := hf1 _ e; omega
      · exact fun e => by have : w3.heap.size + 1 = w.heap.size := e; omega
      · exact fun e => by have : w3.heap.size + 1 = d := e; omega
      · exact fun e => by have : w3.heap.size = w.heap.size := e; omega
      · exact fun e => by have : w3.heap.size = d := e; omega
      · exact fun e => by have := (hvl _ e).2; have h : w3.heap.size + 1 < w3.heap.size := this; omega
      · exact fun e => by have := (hvl _ e).2; have h : w3.heap.size < w3.heap.size := this; omega
      · exact fun e => by have := hfs _ e; have h : w3.heap.size ≤ w.heap.size := this; omega
      · exact fun e => by have h : w3.heap.size ≤ d := hfs _ e; omega
      · exact fun q hq e => by have := hfs q hq; have := (hvl q e).2; omega
      · intro q hq
        rcases hq with e | e | e | e | e
        · right; have : q = w3.heap.size + 1 := e; omega
        · right; have : q = w3.heap.size := e; omega
        · right; have : q = w.heap.size := e; omega
        · left; exact e
        · right; exact (hvl q e).1
      · intro q hq
        have h : w3.heap.size ≤ q := hfs q hq
        omega
end Go.Proofs.Ytlpnomejpaoeaaa
