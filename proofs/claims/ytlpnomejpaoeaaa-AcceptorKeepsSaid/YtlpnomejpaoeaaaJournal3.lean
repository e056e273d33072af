/- Package journal: Open. -/
import Derived.Test.YtlpnomejpaoeaaaJournal2
namespace Go.Proofs.Ytlpnomejpaoeaaa
set_option linter.unusedSimpArgs false
set_option linter.unusedVariables false
open Go.RowKit
set_option maxHeartbeats 400000
set_option maxRecDepth 20000

/-- The bytes of records, one behind the other. -/
def diskBytes (l : List Bytes) : Bytes := l.flatMap framed
theorem diskBytes_snoc (l : List Bytes) (r : Bytes) : diskBytes (l ++ [r]) = diskBytes l ++ framed r := by simp [diskBytes]
theorem diskBytes_append (l m : List Bytes) : diskBytes (l ++ m) = diskBytes l ++ diskBytes m := by simp [diskBytes]
theorem diskBytes_cons (r : Bytes) (l : List Bytes) : diskBytes (r :: l) = framed r ++ diskBytes l := by simp [diskBytes]
/-- Records that may be. -/
def RecsOk (l : List Bytes) : Prop := ∀ r ∈ l, 1 ≤ r.length ∧ r.length ≤ 512

/-- The first record of the rest, as Go has it. -/
def headText (l : List Bytes) : Bytes := l.headD []
def headOk (l : List Bytes) : Bool := !l.isEmpty
theorem journal_first (l : List Bytes) (hl : RecsOk l) (hb : (diskBytes l).length ≤ 990000) (w : World) :
    Calls Try.prog 53 #[str (diskBytes l)] w fun e w' => e = .returned (.tuple #[str (headText l), .bool (headOk l)]) ∧ Below w.heap.size w w' := by
  cases l with
  | nil => exact journal_first_none w
  | cons r l =>
    rw [diskBytes_cons] at hb ⊢
    have h := hl r (by simp)
    exact journal_first_some r (diskBytes l) h.1 h.2 (by rw [List.length_append] at hb; omega) w

/-- A journal was opened. -/
def Opened (w : World) (d : Nat) (l : List Bytes) (e : Ending) (w' : World) : Prop :=
  ∃ v, e = .returned (.tuple #[rptr w.heap.size, .int .i64 0]) ∧ JrnAt w' w.heap.size d v l false ∧ DiskAt w' d (diskBytes l) (diskBytes l).length false ∧ Fresh w.heap.size v ∧ ¬ v.ownBlock = some w.heap.size ∧ Only d w w'

theorem journal_Open (d : Nat) (l : List Bytes) (lasts : Int) (w : World) (hd : DiskAt w d (diskBytes l) lasts false) (hl : RecsOk l) (hb : (diskBytes l).length ≤ 990000) :
    Calls Try.prog 33 #[rptr d] w (Opened w d l) := by
  have hn : l.length ≤ 990000 := by
    have : l.length ≤ (diskBytes l).length := by
      clear hd hb
      induction l with
      | nil => simp
      | cons r l ih =>
        have := ih (fun q hq => hl q (by simp [hq]))
        rw [diskBytes_cons, List.length_append, framed_length, List.length_cons]; omega
    omega
  have hdlt := hd.lt
  have Hd := hid hd
  have Hl := hid hl
  clear hl
  go_enter Try.func33, Try.ntmps33
  go_wp2_with fail
  refine (disk_Read d _ lasts false _ hd).mono ?_
  rintro e w' ⟨rfl, rfl⟩
  simp only [Bool.false_eq_true, if_false]
  clear hd
  go_wp2_with fail
  refine (journal_first l Hl.out hb _).mono ?_
  rintro e w1 ⟨rfl, hk1⟩
  have hj1 : JrnAt w1 w.heap.size d (.slice none 0 0) [] false := ⟨(hk1.block _ (by simp)).trans (alloc_new _ _), Own.nil _ _ _⟩
  have hb1 : Below w.heap.size w w1 := (below_alloc _ _).trans (hk1.mono (by simp))
  have Hj1 := hid hj1
  clear hj1 hk1
  go_wp2_with fail
  go_loopw [7, 8, 9] (fun a tx ok wr => ∃ k : Nat, ∃ v : Value, k ≤ l.length ∧ a = .int .i64 (diskBytes (l.take k)).length ∧ tx = str (headText (l.drop k)) ∧ ok = .bool (headOk (l.drop k)) ∧
      JrnAt wr w.heap.size d v (l.take k) false ∧ Fresh w.heap.size v ∧ ¬ v.ownBlock = some w.heap.size ∧ Below w.heap.size w wr) (fun a _ _ _ => (diskBytes l).length - (intOf a).toNat)
  case atStart => exact ⟨0, _, by omega, by simp [diskBytes], by simp, by simp, by simpa using Hj1.out, Fresh.nil _, by simp [Value.ownBlock], hb1⟩
  case round =>
    obtain ⟨k, v, hk, rfl, rfl, rfl, hj, hf, hvj, hbr⟩ := hrel
    by_cases hlt : k < l.length
    · have hcons : l.drop k = l[k] :: l.drop (k + 1) := List.drop_eq_getElem_cons hlt
      have htk : l.take (k + 1) = l.take k ++ [l[k]] := List.take_succ_eq_append_getElem hlt
      have hr := Hl.out _ (List.getElem_mem hlt)
      have hfull : diskBytes l = diskBytes (l.take (k + 1)) ++ diskBytes (l.drop (k + 1)) := by rw [← diskBytes_append, List.take_append_drop]
      have hlen : (diskBytes (l.take (k + 1))).length = (diskBytes (l.take k)).length + (2 + l[k].length + 4) := by
        rw [htk, diskBytes_snoc, List.length_append, framed_length]; omega
      have hrok : RecsOk (l.drop (k + 1)) := fun q hq => Hl.out q (List.mem_of_mem_drop hq)
      have hl1 : (diskBytes (l.drop (k + 1))).length ≤ 990000 := by rw [hfull, List.length_append] at hb; omega
      have hx : (ByteArray.mk (diskBytes l).toArray).extract ((diskBytes (l.take k)).length + (2 + l[k].length + 4)) (diskBytes l).length = ByteArray.mk (diskBytes (l.drop (k + 1))).toArray := by
        rw [str_extract, List.take_length, ← hlen]
        congr 2
        rw [hfull, List.drop_left]
      have hle : (diskBytes (l.take k)).length + (2 + l[k].length + 4) ≤ (diskBytes l).length := by rw [← hlen, hfull, List.length_append]; omega
      have hhd : headText (l.drop k) = l[k] := by rw [hcons]; rfl
      have hho : headOk (l.drop k) = true := by rw [hcons]; rfl
      rw [hhd, hho]
      have hta : (l.take k).length = k := by simp; omega
      have hjv := hj.own
      obtain ⟨g0, g1, g2, q0, q1, q2⟩ := hj.facts
      have Hj := hid hj
      have Hx := hid hx
      have Hlen := hid hlen
      have Htk := hid htk
      have Hrok := hid hrok
      have hjlt := hj.lt
      generalize hrk : l[k] = r at *
      generalize hak : (diskBytes (l.take k)).length = a at *
      clear hj hcons hfull hhd hho hx htk hrok hjv hlen hrk hak
      have hRd : ∀ (W : World) (g : Nat), g = W.heap.size → Rd (W.alloc (.cells #[str r] 9)) 1 (.slice (some ⟨g, 0, none⟩) 1 1) 1 (strCells [r]) :=
        fun W g hg => Rd.lit W _ _ 1 1 g hg rfl (by decide)
      have HRd := hid hRd
      clear hRd
      go_wp2_with (at_builtin; refine wpList_app rfl _ _ rfl sl_strings v _ _ rfl (Hj.out.own.below (below_alloc _ _)) _ 1 _ rfl (HRd.out _ _ rfl) (strCells_one _) (by unfold maxLen; omega) (by omega) ?_; intro v4 w4 hap; obtain ⟨p4, c4, rfl⟩ := hap.own.form; have h4 := hap.kp.heap (alloc_old (x := .cells #[str r] 9) Hj.out.at_) hvj; have hcb : w4.cell? ⟨w.heap.size, 1, none⟩ = some v := (by rw [cell_of h4]; rfl); have hfb := free_of h4 1)
      rw [Hx.out]
      refine (journal_first _ Hrok.out hl1 _).mono ?_
      rintro e w5 ⟨rfl, hk5⟩
      go_wp2
      have hset := only_set w4 w.heap.size 1 (.slice p4 ((l.take k).length + 1) c4)
      have hzr := hbr.size
      have n1 : ¬ (Value.slice p4 ((l.take k).length + 1) c4).ownBlock = some w.heap.size := fun h => by
        rcases hap.at_ _ h with h | h
        · exact hvj h
        · simp only [World.size_alloc] at h; omega
      have hfr : Fresh w.heap.size (Value.slice p4 ((l.take k).length + 1) c4) := hap.fresh hf (by simp only [World.size_alloc]; omega)
      have hjn : JrnAt (w4.setCell ⟨w.heap.size, 1, none⟩ (.slice p4 ((l.take k).length + 1) c4)) w.heap.size d (.slice p4 ((l.take k).length + 1) c4) (l.take (k + 1)) false := ⟨by simpa using setCell_self (i := 1) h4 (.slice p4 ((l.take k).length + 1) c4), by
        have := hap.own.kept hset (fun k hk e => n1 (by rw [← e]; exact hk))
        rw [Htk.out]
        simpa [strCells] using this⟩
      have hbn : Below w.heap.size w (w4.setCell ⟨w.heap.size, 1, none⟩ (.slice p4 ((l.take k).length + 1) c4)) :=
        pu_set ((hbr.alloc hzr _).trans (hap.below hf (by simp only [World.size_alloc]; omega))) (Nat.le_refl _) _
      rw [hta] at hfr n1 hjn hbn
      go_roundw
      case rel => exact ⟨k + 1, _, by omega, by rw [Hlen.out]; go_num, rfl, rfl, hjn.below hk5, hfr, n1, pu_trans hbn hk5⟩
      case measure => simp [intOf]; omega
    · obtain rfl : k = l.length := by omega
      rw [List.take_length] at hj ⊢
      rw [List.drop_length]
      have hd5 := Hd.out.below hbr
      have Hj := hid hj
      clear hj Hj1
      go_wp2_with fail
      refine (disk_Cut d _ lasts (diskBytes l).length _ hd5 (Nat.le_refl _) (by omega)).mono ?_
      rintro e w5 ⟨rfl, hd6, hk6⟩
      go_wp2
      go_ret2
      rw [List.take_length] at hd6
      exact ⟨v, rfl, Hj.out.kept hk6 (by omega) (fun k hk e => by have := hf k hk; omega), hd6, hf, hvj, (Kp.of_below hbr).trans hk6⟩
end Go.Proofs.Ytlpnomejpaoeaaa
