/- Package acceptor: Prepare. -/
import Derived.Test.YtlpnomejpaoeaaaAct2
namespace Go.Proofs.Ytlpnomejpaoeaaa
set_option linter.unusedSimpArgs false
set_option linter.unusedVariables false
open Go.RowKit
set_option maxHeartbeats 400000
set_option maxRecDepth 20000

def prepErr (st : St) (b : Ballot) (f : Int) : Int := if f < st.low then 9 else if b.below st.p then 8 else 0

theorem entPut_len (l : List Entry) (x : Entry) : (entPut l x).length ≤ l.length + 1 := by
  unfold entPut
  split <;> simp
theorem replay_len (l : List Rec) : (replay l).ents.length ≤ l.length := by
  suffices ∀ (l : List Rec) (st : St), (l.foldl St.step st).ents.length ≤ st.ents.length + l.length by
    have h1 := this l St.init
    have h0 : St.init.ents.length = 0 := rfl
    unfold replay
    omega
  intro l
  induction l with
  | nil => intro st; simp
  | cons r l ih =>
    intro st
    have h1 := ih (st.step r)
    have h2 : (st.step r).ents.length ≤ st.ents.length + 1 := by
      cases r with
      | promise b => simp [St.step]
      | accept x => exact entPut_len _ _
      | birth self v => simp only [St.step, St.cut]; have := List.length_filter_le (fun x : Entry => !decide (x.slot < max st.low 0)) st.ents; omega
      | cut low v => simp only [St.step, St.cut]; have := List.length_filter_le (fun x : Entry => !decide (x.slot < max st.low low)) st.ents; omega
    simp only [List.foldl_cons, List.length_cons]
    omega

/-- The facts of Prepare's box. -/
theorem box_facts1 {w : World} {A : Nat} {n y : Value} (hlt : A < w.heap.size) (c1 : w.cell? ⟨A, 1, none⟩ = some n) (c2 : w.cell? ⟨A, 2, none⟩ = some y) (b : Ballot) :
    (w.alloc (.cells (balArr b) 42)).cell? ⟨w.heap.size, 0, none⟩ = some (.int .u32 b.n) ∧ (w.alloc (.cells (balArr b) 42)).cell? ⟨w.heap.size, 1, none⟩ = some (.int .u8 b.by_) ∧
      (w.alloc (.cells (balArr b) 42)).cell? ⟨A, 1, none⟩ = some n ∧ (w.alloc (.cells (balArr b) 42)).cell? ⟨A, 2, none⟩ = some y := by
  have hB : Below w.heap.size w (w.alloc (.cells (balArr b) 42)) := pu_alloc (pu_refl w) _
  have g := alloc_new w (.cells (balArr b) 42)
  exact ⟨by rw [cell_of g]; rfl, by rw [cell_of g]; rfl, cell_keep hB c1, cell_keep hB c2⟩

set_option maxHeartbeats 1000000 in
theorem acceptor_Prepare_no (A j : Nat) (st : St) (s : Value) (m : Nat) (b : Ballot) (f : Int) (w : World) (h : AccAt w A j st s m) (he : prepErr st b f ≠ 0) :
    Calls Try.prog 15 #[rptr A, .agg (balArr b), .int .u32 f] w fun e w' => e = .returned (.tuple #[.slice none 0 0, .int .i64 (prepErr st b f)]) ∧ Below w.heap.size w w' := by
  have hlt := h.lt
  have c1 : w.cell? ⟨A, 1, none⟩ = some (.int .u32 st.p.n) := by rw [cell_of h.at_]; rfl
  have c2 : w.cell? ⟨A, 2, none⟩ = some (.int .u8 st.p.by_) := by rw [cell_of h.at_]; rfl
  have c3 : w.cell? ⟨A, 3, none⟩ = some (.int .u32 st.low) := by rw [cell_of h.at_]; rfl
  clear h
  by_cases h1 : f < st.low
  · have hv : prepErr st b f = 9 := by simp [prepErr, h1]
    rw [hv]
    go_enter Try.func15, Try.ntmps15
    go_wp2
    go_ret2
    exact ⟨rfl, below_alloc _ _⟩
  · have h3 : b.below st.p = true := by
      by_cases h3 : b.below st.p = true
      · exact h3
      · simp [prepErr, h1, h3] at he
    have hv : prepErr st b f = 8 := by simp [prepErr, h1, h3]
    rw [hv]
    go_enter Try.func15, Try.ntmps15
    go_wp2_with fail
    obtain ⟨d0, d1, d2, d3⟩ := box_facts1 hlt c1 c2 b
    have hbW := below_alloc w (.cells (balArr b) 42)
    generalize hW : World.alloc w _ = W at *
    go_region_held3 (fun w' => w'.cell? ⟨w.heap.size, 0, none⟩ = some (.int .u32 b.n) ∧ w'.cell? ⟨w.heap.size, 1, none⟩ = some (.int .u8 b.by_) ∧ w'.cell? ⟨A, 1, none⟩ = some (.int .u32 st.p.n) ∧ w'.cell? ⟨A, 2, none⟩ = some (.int .u8 st.p.by_)) (first | (apply cell_keep4 <;> assumption) | go_keep) (first | (go_at_call 16; refine (mark_Below b st.p _).mono ?_; rintro e w1 ⟨rfl, hk1⟩))
    have hb1 : Below w.heap.size w w1 := pu_trans (pu_drew hbW) hk1
    go_wp2
    go_ret2
    exact ⟨rfl, hb1⟩

/-- A ballot was prepared. -/
def Prepared (w : World) (a : Ac) (l : List Rec) (l' : List Rec) (f : Int) (e : Ending) (w' : World) : Prop :=
  ∃ a' v out, e = .returned (.tuple #[v, .int .i64 0]) ∧ AcIs w' a' l' false false ∧ a.next a' w ∧ Kp a.K w w' ∧ EntsFrom (replay l').ents f out ∧ Rd w' 8 v out.length (entsCells out) ∧ Fresh w.heap.size v

set_option maxHeartbeats 2000000 in
theorem acceptor_Prepare (a : Ac) (l : List Rec) (b : Ballot) (hb : b.fits) (f : Int) (w : World) (h : AcIs w a l false false) (hl : Fits l) (hn : l.length ≤ 900) (he : prepErr (replay l) b f = 0) :
    Calls Try.prog 15 #[rptr a.A, .agg (balArr b), .int .u32 f] w (Prepared w a l (if (replay l).p.below b then l ++ [.promise b] else l) f) := by
  have hlt := h.acc.lt
  have c1 : w.cell? ⟨a.A, 1, none⟩ = some (.int .u32 (replay l).p.n) := by rw [cell_of h.acc.at_]; rfl
  have c2 : w.cell? ⟨a.A, 2, none⟩ = some (.int .u8 (replay l).p.by_) := by rw [cell_of h.acc.at_]; rfl
  have c3 : w.cell? ⟨a.A, 3, none⟩ = some (.int .u32 (replay l).low) := by rw [cell_of h.acc.at_]; rfl
  have h1 : ¬ f < (replay l).low := fun h1 => by simp [prepErr, h1] at he
  have h3 : b.below (replay l).p = false := by
    cases h3 : b.below (replay l).p with
    | false => rfl
    | true => simp [prepErr, h1, h3] at he
  have H := hid h
  have Hl := hid hl
  have Hlen := hid (replay_len l)
  have Hlen2 := hid (replay_len (l ++ [.promise b]))
  clear h he hl
  generalize hL : (if (replay l).p.below b then l ++ [.promise b] else l) = l'
  have HL := hid hL
  clear hL
  go_enter Try.func15, Try.ntmps15
  go_wp2_with fail
  obtain ⟨d0, d1, d2, d3⟩ := box_facts1 hlt c1 c2 b
  have hbW := below_alloc w (.cells (balArr b) 42)
  have HbW := hid hbW
  generalize hW : World.alloc w _ = W at *
  go_region_held3 (fun w' => w'.cell? ⟨w.heap.size, 0, none⟩ = some (.int .u32 b.n) ∧ w'.cell? ⟨w.heap.size, 1, none⟩ = some (.int .u8 b.by_) ∧ w'.cell? ⟨a.A, 1, none⟩ = some (.int .u32 (replay l).p.n) ∧ w'.cell? ⟨a.A, 2, none⟩ = some (.int .u8 (replay l).p.by_)) (first | (apply cell_keep4 <;> assumption) | go_keep) (first | (go_at_call 16; refine (mark_Below b (replay l).p _).mono ?_; rintro e w1 ⟨rfl, hk1⟩))
  rename_i hHeld
  obtain ⟨e0, e1, e2, e3⟩ := hHeld
  have hb1 : Below w.heap.size w w1 := pu_trans (pu_drew HbW.out) hk1
  clear d0 d1 d2 d3 hk1 hW hbW
  go_wp2_with fail
  go_region_held3 (fun w' => w'.cell? ⟨w.heap.size, 0, none⟩ = some (.int .u32 b.n) ∧ w'.cell? ⟨w.heap.size, 1, none⟩ = some (.int .u8 b.by_) ∧ w'.cell? ⟨a.A, 1, none⟩ = some (.int .u32 (replay l).p.n) ∧ w'.cell? ⟨a.A, 2, none⟩ = some (.int .u8 (replay l).p.by_)) (first | (apply cell_keep4 <;> assumption) | go_keep) (first | (go_at_call 16; refine (mark_Below (replay l).p b _).mono ?_; rintro e w2 ⟨rfl, hk2⟩))
  rename_i hHeld
  obtain ⟨k0, k1, -, -⟩ := hHeld
  have hb2 : Below w.heap.size w w2 := pu_trans (pu_drew hb1) hk2
  clear e0 e1 e2 e3 hk2 c1 c2 c3
  have HL' := HL.out
  by_cases hlow : (replay l).p.below b = true
  · rw [if_pos hlow] at HL'
    rw [hlow]
    go_wp2_with fail
    refine (acceptor_promised b.n b.by_ hb.1.1 hb.1.2 hb.2.1 hb.2.2 _).mono ?_
    rintro e w3 ⟨rfl, hk3⟩
    have hb3 : Below w.heap.size w w3 := pu_trans hb2 hk3
    rw [record_promise]
    go_wp2_with fail
    refine (acceptor_write a l (.promise b) _ (H.out.below hb3) Hl.out (by omega) hb).mono ?_
    rintro e w4 ⟨a', rfl, hA4, hnx4, hk4⟩
    rw [← hnx4.A]
    go_wp2_with fail
    refine (acceptor_Entries a'.A a'.j _ a'.s a'.m f _ hA4.acc (by have := Hlen2.out; simp at this; omega)).mono ?_
    rintro e w5 ⟨v, out, hef, rfl, hrd, hfr, hb5⟩
    go_wp2
    go_ret2
    rw [HL'] at hA4 hef
    exact ⟨a', v, out, rfl, hA4.below hb5, hnx4.back hb3, (hk4.back hb3).then (T := fun _ => False) (Kp.of_below hb5) (fun _ _ f => f.elim), hef, hrd, hfr.mono (Nat.le_trans hb3.size hk4.size)⟩
  · rw [if_neg hlow] at HL'
    simp only [Bool.not_eq_true] at hlow
    rw [hlow]
    subst HL'
    have hA2 := H.out.below hb2
    go_wp2_with fail
    refine (acceptor_Entries a.A a.j _ a.s a.m f _ hA2.acc (by have := Hlen.out; omega)).mono ?_
    rintro e w5 ⟨v, out, hef, rfl, hrd, hfr, hb5⟩
    go_wp2
    go_ret2
    exact ⟨a, v, out, rfl, hA2.below hb5, Ac.next.refl _ _, Kp.of_below (pu_trans hb2 hb5), hef, hrd, hfr.mono hb2.size⟩
end Go.Proofs.Ytlpnomejpaoeaaa
