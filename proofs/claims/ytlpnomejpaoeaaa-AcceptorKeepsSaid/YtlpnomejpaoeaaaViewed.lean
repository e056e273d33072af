/- Package acceptor: a view is read as it was written. -/
import Derived.Test.YtlpnomejpaoeaaaTakes
import Derived.Deep.RegionLaw
import Derived.Test.YtlpnomejpaoeaaaRows2
namespace Go.Proofs.Ytlpnomejpaoeaaa
set_option linter.unusedSimpArgs false
set_option linter.unusedVariables false
open Go.RowKit
set_option maxHeartbeats 400000
set_option maxRecDepth 20000

section
variable {P : Program}
/-- copy of a string's bytes into a row. -/
theorem run_copy_str (w : World) (dT sT ty elem : TypeId) (hu : P.underlying dT = some (.slice elem)) (hs : (P.info? elem).map (·.size) = some 1)
    (g o n cap : Nat) (cur : Array Value) (t : TypeId) (fr : Nat × Nat) (hg : w.heap[g]? = some (.cells cur t fr)) (hfr : fr = (0, 0) ∨ cur.size ≤ fr.1) (m : Bytes) (hm : m.length = n) (hfit : o + n ≤ cur.size) :
    (Builtin.copy_ #[dT, sT] ty #[.slice (some ⟨g, o, none⟩) n cap, str m]).run P w = .ok (goInt n) (w.setRow g (cur.toList.take o ++ byteVals m ++ cur.toList.drop (o + n)).toArray) := by
  subst hm
  have hf : (Builtin.firstCells 1 m.length (.string ⟨m.toArray⟩)).run P w = .ok (byteVals m).toArray w := run_firstCells_str w m
  have hst := run_storeCells_own (P := P) g o t fr (byteVals m) 0 cur w hg hfr (by simpa [byteVals] using hfit) (byteVals_one m)
  simp only [Nat.add_zero, byteVals_length] at hst
  cases hq : P.info? elem with
  | none => rw [hq] at hs; cases hs
  | some i =>
    rw [hq] at hs
    simp only [Option.map_some, Option.some.injEq] at hs
    have hmin : Nat.min m.length m.length = m.length := Nat.min_self _
    simp [Builtin.copy_, run_underlying hu, sizeOf, typeInfo, hq, hs, Builtin.lenOf, ByteArray.size, hmin, hf, hst]
theorem step_copystr {ops : Array Oper} {o : Oper} {a : Act} {w : World} {K : Act → World → Prop} {Q : Exit → Act → World → Prop} {E : Prop} (hgd : o.guard = none) (d s : Operand) (dT sT : TypeId)
    (ho : o.op = .call { callee := .builtin .copy, args := #[d, s], argTypes := #[dT, sT] }) (elem : TypeId) (hu : P.underlying dT = some (.slice elem)) (hsz : (P.info? elem).map (·.size) = some 1)
    (g off n cap : Nat) (cur : Array Value) (t : TypeId) (fr : Nat × Nat) (m : Bytes) (hd : a.eval d = .slice (some ⟨g, off, none⟩) n cap) (hs : a.eval s = str m) (hg : w.heap[g]? = some (.cells cur t fr)) (hfr : fr = (0, 0) ∨ cur.size ≤ fr.1)
    (hm : m.length = n) (hfit : off + n ≤ cur.size)
    (h : K (a.put o.dst (goInt n)) (w.setRow g (cur.toList.take off ++ byteVals m ++ cur.toList.drop (off + n)).toArray)) : if Region.wanted o (yielded ops a.tmps) = true then Oper.wp P o a w K Q else E := by
  have hw : Region.wanted o (yielded ops a.tmps) = true := by simp [Region.wanted, hgd]
  rw [if_pos hw]
  have hrun := run_copy_str (P := P) w dT sT o.type elem hu hsz g off n cap cur t fr hg hfr m hm hfit
  unfold Oper.wp
  have he : (execOp a.eval o).run P w = .ok (.value (goInt n)) (w.setRow g (cur.toList.take off ++ byteVals m ++ cur.toList.drop (off + n)).toArray) := by
    simp only [execOp, ho, resolve, invoke, builtin, Sem.run_bind]
    simp [hd, hs, hrun]
  rw [he]
  exact h
end

theorem sl_members : SlT Try.prog 29 61 3 3 := ⟨Try.underlying29, by kernel_rfl, by decide⟩
theorem memCells_one (l : List Member) : ∀ u ∈ memCells l, u.oneCell' = true := by
  intro u hu
  simp only [memCells, List.mem_flatMap] at hu
  obtain ⟨p, _, hp⟩ := hu
  simp only [Member.cells, List.mem_cons, List.not_mem_nil, or_false] at hp
  rcases hp with rfl | rfl | rfl <;> rfl

def memBytes (m : Member) : Bytes := beBytes m.node 1 ++ (beBytes m.life 1 ++ beBytes (if m.ready then 1 else 0) 1)
def viewBytes (x : View) : Bytes := beBytes x.epoch 4 ++ (beBytes x.members.length 1 ++ (x.members.flatMap memBytes ++ livesBytes x))
theorem livesBytes_length (x : View) : (livesBytes x).length = 8 := by simp [livesBytes]
theorem memBytes_length (l : List Member) : (l.flatMap memBytes).length = l.length * 3 := by
  induction l with
  | nil => rfl
  | cons p l ih => simp only [List.flatMap_cons, List.length_append, memBytes, beBytes_length, List.length_cons] at ih ⊢; omega

theorem lives_cells (x : View) (hx : x.fits) : byteVals (livesBytes x) = [.int .u8 (x.l 0), .int .u8 (x.l 1), .int .u8 (x.l 2), .int .u8 (x.l 3), .int .u8 (x.l 4), .int .u8 (x.l 5), .int .u8 (x.l 6), .int .u8 (x.l 7)] := by
  have hlv : ∀ i, ((UInt8.ofNat (x.l i).toNat).toNat : Int) = x.l i := fun i => by
    have h1 := hx.l i
    simp; omega
  have e : List.range 8 = [0, 1, 2, 3, 4, 5, 6, 7] := by decide
  simp only [byteVals, livesBytes, e, List.map_cons, List.map_nil, hlv]

/-- A call hands back a view, having read it. -/
def RetView (x : View) (r : Nat) (t : Bytes) (w : World) (en : Ending) (w' : World) : Prop :=
  ∃ s, en = .returned (.agg (viewCells x s)) ∧ Own w' 61 3 s x.members.length (memCells x.members) ∧ Fresh w.heap.size s ∧ RdrAt w' r t 0 ∧ Only r w w'

/-- The view while it is read: its list so far, no lives yet. -/
abbrev halfCells (e : Int) (s : Value) : Array Value := #[.int .u32 e, s, .int .u8 0, .int .u8 0, .int .u8 0, .int .u8 0, .int .u8 0, .int .u8 0, .int .u8 0, .int .u8 0]

theorem st_view : StT Try.prog 32 10 := StT.mk' Try.underlying32 rfl (by kernel_rfl)

/-- One round's end. -/
theorem viewed_rel {w wr wc w4 : World} {r b3 k : Nat} {s s' : Value} {q : Bytes} {e : Int} {xs xs' : List Value}
    (h3 : wr.heap[b3]? = some (.cells (halfCells e s) 32 (0, 0))) (h2 : wr.heap[w.heap.size]? = some (.cells (halfCells 0 (.slice none 0 0)) 32 (0, 0)))
    (hf : Fresh w.heap.size s) (hnb3 : ¬ s.ownBlock = some b3) (hnb2 : ¬ s.ownBlock = some w.heap.size) (hnr : ¬ s.ownBlock = some r) (hkr : Only r w wr) (hb3r : b3 < wr.heap.size) (hb3ne : ¬ b3 = r) (hb3w : w.heap.size < b3) (hrw : r < w.heap.size)
    (hkc : Only r wr wc) (hr3 : RdrAt wc r q 0) (hap : Appended wc w4 61 3 s s' k xs) (hxs : xs = xs') :
    RdrAt (w4.setCell ⟨b3, 1, none⟩ s') r q 0 ∧ (w4.setCell ⟨b3, 1, none⟩ s').heap[b3]? = some (.cells (halfCells e s') 32 (0, 0)) ∧
    (w4.setCell ⟨b3, 1, none⟩ s').heap[w.heap.size]? = some (.cells (halfCells 0 (.slice none 0 0)) 32 (0, 0)) ∧
    Own (w4.setCell ⟨b3, 1, none⟩ s') 61 3 s' k xs' ∧ Fresh w.heap.size s' ∧ ¬ s'.ownBlock = some b3 ∧ ¬ s'.ownBlock = some w.heap.size ∧ ¬ s'.ownBlock = some r ∧ Only r w (w4.setCell ⟨b3, 1, none⟩ s') ∧
    b3 < (w4.setCell ⟨b3, 1, none⟩ s').heap.size ∧ ¬ b3 = r := by
  subst hxs
  have hz1 := hkr.size
  have hz2 := hkc.size
  have hz3 := hap.kp.size
  have hnew : ∀ g, s'.ownBlock = some g → s.ownBlock = some g ∨ wc.heap.size ≤ g := hap.at_
  have n3 : ¬ s'.ownBlock = some b3 := fun h => by rcases hnew _ h with h | h; exact hnb3 h; omega
  have n2 : ¬ s'.ownBlock = some w.heap.size := fun h => by rcases hnew _ h with h | h; exact hnb2 h; omega
  have nr : ¬ s'.ownBlock = some r := fun h => by rcases hnew _ h with h | h; exact hnr h; omega
  have h34 := hap.kp.heap (hkc.heap h3 hb3ne) hnb3
  have h24 := hap.kp.heap (hkc.heap h2 (by omega)) hnb2
  have hset := only_set w4 b3 1 s'
  refine ⟨(hr3.kept hap.kp hnr).kept hset (fun e => hb3ne e.symm), ?_, hset.heap h24 (by omega), hap.own.kept hset (fun g hg e => n3 (by rw [← e]; exact hg)), hap.fresh hf (by omega), n3, n2, nr, ?_, ?_, hb3ne⟩
  · have := setCell_self (i := 1) h34 s'
    simpa using this
  · refine Kp.setCell (p := ⟨b3, 1, none⟩) ?_ (fun h => ?_) _
    · exact (hkr.trans hkc).then hap.kp (fun g hg h => by have := hf g h; omega)
    · have : b3 < w.heap.size := h
      omega
  · have := hset.size
    omega

set_option maxHeartbeats 2000000 in
theorem acceptor_viewed (x : View) (hx : x.fits) (hn : x.members.length ≤ 8) (t : Bytes) (ht : t.length ≤ 900000) (r : Nat) (w : World) (h : RdrAt w r (viewBytes x ++ t) 0) :
    Calls Try.prog 70 #[rptr r] w (RetView x r t w) := by
  have hr0 := h.lt
  have hb := h.below (below_alloc w (.cells (halfCells 0 (.slice none 0 0)) 32))
  simp only [viewBytes, List.append_assoc] at hb
  have H := hid hb
  have Hx := hid hx
  clear h hb
  have hep := hx.epoch
  clear hx
  go_enter Try.func70, Try.ntmps70
  go_wp2_with fail
  refine (rd_num4 _ hep _ (by simp only [List.length_append, beBytes_length, memBytes_length, livesBytes_length]; omega) _ _ H.out).mono ?_
  rintro e w1 ⟨rfl, hr1, hk1⟩
  go_wp2_with fail
  refine (rd_num1 (x.members.length : Int) (by omega) _ (by simp only [List.length_append, memBytes_length, livesBytes_length]; omega) _ _ (hr1.below (below_alloc _ _))).mono ?_
  rintro e w2 ⟨rfl, hr2, hk2⟩
  have hne : ¬ w.heap.size = r := by omega
  have hz1 := hk1.size
  simp only [World.size_alloc] at hz1
  have hne1 : ¬ w1.heap.size = r := by omega
  have hx3 := new_kept hk2 hne1
  have hx2 := (hk2.heap (alloc_old (x := .cells (halfCells x.epoch (.slice none 0 0)) 32) (new_kept hk1 hne)) hne)
  have hkw : Only r w w2 := by (repeat (first | exact Kp.refl _ _ | assumption | refine Kp.alloc ?_ _ | refine Kp.drew ?_ | refine Kp.drewN ?_ _ | refine Kp.setCell ?_ (by simp; try omega) _ | (apply Kp.trans; rotate_left; assumption) | (refine Kp.trans ?_ (Kp.of_below (by assumption)))))
  have hfr0 : w.heap.size < w1.heap.size := by omega
  have hb3w : w1.heap.size < w2.heap.size := by have := hk2.size; simp only [World.size_alloc] at this; omega
  generalize w1.heap.size = b3 at *
  clear hk1 hr1 hk2 hz1
  go_wp2_with fail
  go_loopw [10] (fun i wr => ∃ k : Nat, ∃ s : Value, k ≤ x.members.length ∧ i = .int .u64 k ∧ RdrAt wr r ((x.members.drop k).flatMap memBytes ++ (livesBytes x ++ t)) 0 ∧
      wr.heap[b3]? = some (.cells (halfCells x.epoch s) 32 (0, 0)) ∧ wr.heap[w.heap.size]? = some (.cells (halfCells 0 (.slice none 0 0)) 32 (0, 0)) ∧
      Own wr 61 3 s k (memCells (x.members.take k)) ∧ Fresh w.heap.size s ∧ ¬ s.ownBlock = some b3 ∧ ¬ s.ownBlock = some w.heap.size ∧ ¬ s.ownBlock = some r ∧ Only r w wr ∧ b3 < wr.heap.size ∧ ¬ b3 = r) (fun i _ => x.members.length - (intOf i).toNat)
  case atStart => exact ⟨0, _, by omega, rfl, by simpa using hr2, hx3, hx2, by simpa [memCells] using Own.nil w2 _ _, Fresh.nil _, by simp [Value.ownBlock], by simp [Value.ownBlock], by simp [Value.ownBlock], hkw, hb3w, hne1⟩
  case round =>
    obtain ⟨k, s, hk, rfl, hr, h3, h2, hown, hf, hnb3, hnb2, hnr, hkr, hb3r, hb3r'⟩ := hrel
    clear hr2 hx3 hx2 hkw hb3w
    by_cases hlt : k < x.members.length
    · have hcons : x.members.drop k = x.members[k] :: x.members.drop (k + 1) := List.drop_eq_getElem_cons hlt
      have hsn : memCells (x.members.take (k + 1)) = memCells (x.members.take k) ++ (x.members[k]).cells := by
        rw [List.take_succ_eq_append_getElem hlt, memCells, List.flatMap_append]; simp [memCells]
      have hfit := Hx.out.members _ (List.getElem_mem hlt)
      have hrl : ((x.members.drop (k + 1)).flatMap memBytes).length ≤ 30 := by rw [memBytes_length]; simp; omega
      rw [hcons] at hr
      simp only [List.flatMap_cons, List.append_assoc] at hr
      generalize x.members[k] = m at *
      generalize hml : x.members.drop (k + 1) = ml at *
      have Hml := hid hml
      clear hml
      have Hsn := hid hsn
      have Hown := hid hown
      clear hsn hcons hown
      obtain ⟨nd, lf, rd⟩ := m
      obtain ⟨hm1, hm2⟩ := hfit
      dsimp only at hm1 hm2
      simp only [memBytes, List.append_assoc] at hr
      have hc0 : wr.cell? ⟨b3, 1, none⟩ = some s := by rw [cell_of h3]; rfl
      have hrw := hr.lt
      have hb3ne : ¬ b3 = r := hb3r'
      have hcd : wr.drew.cell? ⟨b3, 1, none⟩ = some s := hc0
      have hRd : ∀ (W : World) (g : Nat) (q : Bool), g = W.heap.size → Rd (W.alloc (.cells #[.int .u8 nd, .int .u8 lf, .bool q] 61)) 3 (.slice (some ⟨g, 0, none⟩) 1 1) 1 (memCells [⟨nd, lf, q⟩]) :=
        fun W g q hg => Rd.lit W _ _ 3 1 g hg rfl (by decide)
      have HRd := hid hRd
      clear hRd
      cases rd
      · simp only [Bool.false_eq_true, if_false] at hr
        replace hr := hr.drew
        go_wp2_with fail
        have hwn : IntKind.u8.wrap nd = nd := by rw [IntKind.wrap_u8]; omega
        have hwl : IntKind.u8.wrap lf = lf := by rw [IntKind.wrap_u8]; omega
        go_region_law (first | (refine step_app rfl _ _ rfl sl_members s _ _ rfl (Hown.out.kept (S := fun k => k = r) (by (repeat (first | exact Kp.refl _ _ | assumption | refine Kp.alloc ?_ _ | refine Kp.drew ?_ | refine Kp.drewN ?_ _ | refine Kp.setCell ?_ (by simp; try omega) _ | (apply Kp.trans; rotate_left; assumption) | (refine Kp.trans ?_ (Kp.of_below (by assumption)))))) (fun k hk e => hnr (by rw [← e]; exact hk))) _ 1 _ rfl (HRd.out _ _ false rfl) (memCells_one [⟨nd, lf, false⟩]) (by unfold maxLen; omega) (by omega) ?_; intro v4 w4 hap; obtain ⟨p4, c4, rfl⟩ := hap.own.form; have h4 := hap.kp.heap (Kp.heap (S := fun k => k = r) (a := wr) (by (repeat (first | exact Kp.refl _ _ | assumption | refine Kp.alloc ?_ _ | refine Kp.drew ?_ | refine Kp.drewN ?_ _ | refine Kp.setCell ?_ (by simp; try omega) _ | (apply Kp.trans; rotate_left; assumption) | (refine Kp.trans ?_ (Kp.of_below (by assumption)))))) h3 hb3ne) hnb3; have hcb : w4.cell? ⟨b3, 1, none⟩ = some s := (by rw [cell_of h4]; rfl); have hfb := free_of h4 1) | (go_simp; go_at_call 64; first | (refine (rd_num1 0 (by omega) _ (by simp only [List.length_append, livesBytes_length]; omega) _ _ hr2).mono ?_; rintro e w3 ⟨rfl, hr3, hk3⟩; have hc3 := cell_kp hk3 hb3ne hc2; have hz3 : b3 < w3.heap.size := Nat.lt_of_lt_of_le hz2 hk3.size) | (refine (rd_num1 _ hm2 _ (by simp only [List.length_append, livesBytes_length, beBytes_length]; omega) _ _ hr1).mono ?_; rintro e w2 ⟨rfl, hr2, hk2⟩; have hc2 := cell_kp hk2 hb3ne hc1; have hz2 : b3 < w2.heap.size := Nat.lt_of_lt_of_le hz1 hk2.size) | (refine (rd_num1 _ hm1 _ (by simp only [List.length_append, livesBytes_length, beBytes_length]; omega) _ _ hr).mono ?_; rintro e w1 ⟨rfl, hr1, hk1⟩; have hc1 := cell_kp hk1 hb3ne hcd; have hz1 : b3 < w1.heap.size := Nat.lt_of_lt_of_le hb3r hk1.size)))
        all_goals
          go_wp2
          go_roundw
          case rel => exact ⟨k + 1, _, by omega, by go_num, viewed_rel h3 h2 hf hnb3 hnb2 hnr hkr hb3r hb3ne hfr0 hr0 (by (repeat (first | exact Kp.refl _ _ | assumption | refine Kp.alloc ?_ _ | refine Kp.drew ?_ | refine Kp.drewN ?_ _ | refine Kp.setCell ?_ (by simp; try omega) _ | (apply Kp.trans; rotate_left; assumption) | (refine Kp.trans ?_ (Kp.of_below (by assumption)))))) (by rw [Hml.out]; exact hr3.below (below_alloc _ _)) hap Hsn.out.symm⟩
          case measure => simp [intOf]; omega
      · simp only [if_true] at hr
        replace hr := hr.drew
        go_wp2_with fail
        have hwn : IntKind.u8.wrap nd = nd := by rw [IntKind.wrap_u8]; omega
        have hwl : IntKind.u8.wrap lf = lf := by rw [IntKind.wrap_u8]; omega
        go_region_law (first | (refine step_app rfl _ _ rfl sl_members s _ _ rfl (Hown.out.kept (S := fun k => k = r) (by (repeat (first | exact Kp.refl _ _ | assumption | refine Kp.alloc ?_ _ | refine Kp.drew ?_ | refine Kp.drewN ?_ _ | refine Kp.setCell ?_ (by simp; try omega) _ | (apply Kp.trans; rotate_left; assumption) | (refine Kp.trans ?_ (Kp.of_below (by assumption)))))) (fun k hk e => hnr (by rw [← e]; exact hk))) _ 1 _ rfl (HRd.out _ _ true rfl) (memCells_one [⟨nd, lf, true⟩]) (by unfold maxLen; omega) (by omega) ?_; intro v4 w4 hap; obtain ⟨p4, c4, rfl⟩ := hap.own.form; have h4 := hap.kp.heap (Kp.heap (S := fun k => k = r) (a := wr) (by (repeat (first | exact Kp.refl _ _ | assumption | refine Kp.alloc ?_ _ | refine Kp.drew ?_ | refine Kp.drewN ?_ _ | refine Kp.setCell ?_ (by simp; try omega) _ | (apply Kp.trans; rotate_left; assumption) | (refine Kp.trans ?_ (Kp.of_below (by assumption)))))) h3 hb3ne) hnb3; have hcb : w4.cell? ⟨b3, 1, none⟩ = some s := (by rw [cell_of h4]; rfl); have hfb := free_of h4 1) | (go_simp; go_at_call 64; first | (refine (rd_num1 1 (by omega) _ (by simp only [List.length_append, livesBytes_length]; omega) _ _ hr2).mono ?_; rintro e w3 ⟨rfl, hr3, hk3⟩; have hc3 := cell_kp hk3 hb3ne hc2; have hz3 : b3 < w3.heap.size := Nat.lt_of_lt_of_le hz2 hk3.size) | (refine (rd_num1 _ hm2 _ (by simp only [List.length_append, livesBytes_length, beBytes_length]; omega) _ _ hr1).mono ?_; rintro e w2 ⟨rfl, hr2, hk2⟩; have hc2 := cell_kp hk2 hb3ne hc1; have hz2 : b3 < w2.heap.size := Nat.lt_of_lt_of_le hz1 hk2.size) | (refine (rd_num1 _ hm1 _ (by simp only [List.length_append, livesBytes_length, beBytes_length]; omega) _ _ hr).mono ?_; rintro e w1 ⟨rfl, hr1, hk1⟩; have hc1 := cell_kp hk1 hb3ne hcd; have hz1 : b3 < w1.heap.size := Nat.lt_of_lt_of_le hb3r hk1.size)))
        all_goals
          go_wp2
          go_roundw
          case rel => exact ⟨k + 1, _, by omega, by go_num, viewed_rel h3 h2 hf hnb3 hnb2 hnr hkr hb3r hb3ne hfr0 hr0 (by (repeat (first | exact Kp.refl _ _ | assumption | refine Kp.alloc ?_ _ | refine Kp.drew ?_ | refine Kp.drewN ?_ _ | refine Kp.setCell ?_ (by simp; try omega) _ | (apply Kp.trans; rotate_left; assumption) | (refine Kp.trans ?_ (Kp.of_below (by assumption)))))) (by rw [Hml.out]; exact hr3.below (below_alloc _ _)) hap Hsn.out.symm⟩
          case measure => simp [intOf]; omega
    · obtain rfl : k = x.members.length := by omega
      rw [List.drop_length] at hr
      rw [List.take_length] at hown
      simp only [List.flatMap_nil, List.nil_append] at hr
      have hl8 := livesBytes_length x
      have htk : (livesBytes x ++ t).take 8 = livesBytes x := by rw [List.take_append_of_le_length (by omega), List.take_of_length_le (by omega)]
      have hdk : (livesBytes x ++ t).drop 8 = t := by rw [List.drop_append_of_le_length (by omega), List.drop_of_length_le (by omega)]; rfl
      have hraw := octet_ReaderRaw r (livesBytes x ++ t) 8 wr.drew hr.drew (by rw [List.length_append]; omega) (by rw [List.length_append]; omega)
      rw [htk, hdk] at hraw
      have Hraw := hid hraw
      obtain ⟨ps, cs, rfl⟩ := hown.form
      have Hown := hid hown
      clear hraw htk hdk hown
      go_wp2_with fail
      go_region_law (first | (refine step_copystr rfl _ _ 128 9 rfl 5 Try.underlying128 (by kernel_rfl) b3 2 8 8 (halfCells x.epoch (.slice ps x.members.length cs)) _ (0, 0) (livesBytes x) rfl rfl (hk1.heap h3 hb3r') (.inl rfl) hl8 (show 2 + 8 ≤ 10 from by decide) ?_) | (go_simp; go_at_call 76; refine Hraw.out.mono ?_; rintro e w1 ⟨rfl, hr1, hk1⟩))
      generalize hW : World.setRow w1 b3 _ = W2
      have h3' : W2.heap[b3]? = some (.cells (viewCells x (.slice ps x.members.length cs)) 32 (0, 0)) := by
        rw [← hW, setRow_heap _ _ _ _ _ _ (hk1.heap h3 hb3r'), lives_cells x Hx.out]
      have hkset := setRow_kp w1 b3 (Value.int IntKind.u32 x.epoch :: .slice ps x.members.length cs :: byteVals (livesBytes x)).toArray
      rw [hW] at hkset
      have h2' : W2.heap[w.heap.size]? = some (.cells (halfCells 0 (.slice none 0 0)) 32 (0, 0)) := hkset.heap (hk1.heap h2 (by omega)) (by omega)
      have hr2 := hr1.kept hkset (fun e => hb3r' e.symm)
      have hown2 := (Hown.out.kept (S := fun k => k = r) (w' := w1) (by (repeat (first | exact Kp.refl _ _ | assumption | refine Kp.alloc ?_ _ | refine Kp.drew ?_ | refine Kp.drewN ?_ _ | refine Kp.setCell ?_ (by simp; try omega) _ | (apply Kp.trans; rotate_left; assumption) | (refine Kp.trans ?_ (Kp.of_below (by assumption)))))) (fun g hg e => hnr (by rw [← e]; exact hg))).kept hkset (fun g hg e => hnb3 (by rw [← e]; exact hg))
      have hko : Only r w W2 := (hkr.trans ((Kp.refl _ wr).drew.trans hk1)).then hkset (fun g hg e => by have : g = b3 := e; omega)
      clear hW hkset hk1 hr1 h3 h2 hkr
      have hone : ∀ u ∈ (viewCells x (.slice ps x.members.length cs)).toList, u.oneCell' = true := by
        intro u hu
        simp only [viewCells, List.mem_cons, List.not_mem_nil, or_false] at hu
        rcases hu with rfl | rfl | rfl | rfl | rfl | rfl | rfl | rfl | rfl | rfl <;> rfl
      go_wp2_with (first | (refine wpList_ld rfl _ rfl st_view b3 0 (viewCells x (.slice ps x.members.length cs)).toList rfl rfl (row_cells h3') ?_) | (refine wpList_st rfl _ _ rfl st_view w.heap.size 0 (viewCells x (.slice ps x.members.length cs)) rfl rfl rfl hone _ _ h2' (Nat.le_refl _) ?_; intro W4 h4 hk4))
      replace h4 : W4.heap[w.heap.size]? = some (.cells (viewCells x (.slice ps x.members.length cs)) 32 (0, 0)) := h4
      refine bodyPost_ret (v := .agg (viewCells x (.slice ps x.members.length cs))) (results_cell_row Try.results70 _ _ w.heap.size _ _ _ _ rfl h4 Try.underlying32 rfl (by kernel_rfl)) rfl ⟨_, rfl, ?_, hf, ?_, ?_⟩
      · exact hown2.kept hk4 (fun g hg e => hnb2 (by rw [← e]; exact hg))
      · exact hr2.kept hk4 (by omega)
      · exact hko.then hk4 (fun g hg e => by have : g = w.heap.size := e; omega)
end Go.Proofs.Ytlpnomejpaoeaaa
