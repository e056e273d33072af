/- Package journal. -/
import Derived.Test.YtlpnomejpaoeaaaDisk
import Derived.Lib.LazyBuf
namespace Go.Proofs.Ytlpnomejpaoeaaa
set_option linter.unusedSimpArgs false
set_option linter.unusedVariables false
open Go.RowKit
set_option maxHeartbeats 400000
set_option maxRecDepth 20000

/-- A record's bytes on the disk. -/
def framed (s : Bytes) : Bytes := crcSeal (beBytes s.length 2 ++ s)
theorem framed_length (s : Bytes) : (framed s).length = s.length + 6 := by
  rw [framed, crcSeal_length, List.length_append, beBytes_length]; omega

theorem journal_framed (s : Bytes) (hs : s.length ≤ 60000) (w : World) :
    Calls Try.prog 57 #[str s] w fun e w' => e = .returned (str (framed s)) ∧ Below w.heap.size w w' := by
  have hok : ∀ p ∈ [Part.num (s.length : Int) 2], p.ok := by
    intro p hp
    simp only [List.mem_cons, List.not_mem_nil, or_false] at hp
    subst hp
    have h2 : (256 : Int) ^ 2 = 65536 := by decide
    exact Part.ok.num _ _ ⟨by omega, by omega, by omega, by omega⟩
  have hRd : ∀ (W : World) (g : Nat), g = W.heap.size → Rd (W.alloc (.cells #[.int .i64 1, .int .i64 2, .int .u64 (s.length : Int), .string ⟨#[]⟩] 93)) 4 (.slice (some ⟨g, 0, none⟩) 1 1) 1 (partCells [Part.num (s.length : Int) 2]) :=
    fun W g hg => Rd.lit W _ _ 4 1 g hg rfl (by decide)
  have HRd := hid hRd
  have Hok := hid hok
  clear hRd hok
  have e1 : partBytes [Part.num (s.length : Int) 2] = beBytes s.length 2 := by simp [partBytes, Part.bytes_num]
  have hJ := fun (v : Value) (w : World) (hv : Rd w 4 v [Part.num (s.length : Int) 2].length (partCells [Part.num (s.length : Int) 2])) => octet_Join _ Hok.out (by simp) v w hv
  rw [e1] at hJ
  have hl2 := beBytes_length (s.length : Int) 2
  generalize hh : beBytes (s.length : Int) 2 = h at hJ hl2
  have HJ := hid hJ
  have Hh := hid hh
  clear hJ hh e1
  go_enter Try.func57, Try.ntmps57
  go_wp2_with fail
  refine (octet_Num _ _ _).mono ?_
  rintro e w1 ⟨rfl, hk1⟩
  go_wp2_with fail
  refine (HJ.out _ _ (HRd.out _ _ rfl)).mono ?_
  rintro e w2 ⟨rfl, hk2⟩
  go_wp2_with fail
  rw [ByteArray.mk_append_mk]
  refine (crc_Seal (h ++ s) (by simp; omega) _).mono ?_
  rintro e w3 ⟨rfl, hk3⟩
  go_wp2
  go_ret
  refine ⟨by rw [framed, Hh.out]; rfl, ?_⟩
  (repeat (first | exact pu_refl _ | assumption | refine pu_alloc ?_ _ | refine pu_drew ?_ | refine pu_drewN ?_ _ | refine pu_set ?_ (by simp; done) _ | (apply pu_trans; rotate_left; assumption)))

theorem journal_first_none (w : World) :
    Calls Try.prog 53 #[str []] w fun e w' => e = .returned (.tuple #[str [], .bool false]) ∧ Below w.heap.size w w' := by
  go_enter Try.func53, Try.ntmps53
  go_wp2_with fail
  refine (octet_Read _ _).mono ?_
  rintro e w' ⟨rfl, rfl⟩
  have hr : RdrAt (w.alloc (.cells #[str [], .int .i64 0] 146)) w.heap.size [] 0 := alloc_new _ _
  have Hr := hid hr
  clear hr
  go_wp2_with fail
  refine (octet_ReaderNum_short _ 2 (by omega) (by omega) _ Hr.out).mono ?_
  rintro e w1 ⟨rfl, hr1, hk1⟩
  go_wp2
  go_ret2
  refine ⟨rfl, ?_⟩
  exact ((below_alloc w _).trans ⟨hk1.os, hk1.tape, hk1.output, hk1.size, fun k hk => hk1.block k (by simp; omega) (by omega)⟩)

theorem journal_first_some (s t : Bytes) (h1 : 1 ≤ s.length) (hs : s.length ≤ 512) (ht : t.length ≤ 990000) (w : World) :
    Calls Try.prog 53 #[str (framed s ++ t)] w fun e w' => e = .returned (.tuple #[str s, .bool true]) ∧ Below w.heap.size w w' := by
  have hsp : framed s ++ t = beBytes (s.length : Int) 2 ++ (s ++ (crcTail (crcSum (beBytes s.length 2 ++ s)) 4 ++ t)) := by simp [framed, crcSeal]
  have htl : (crcTail (crcSum (beBytes s.length 2 ++ s)) 4).length = 4 := by simp [crcTail]
  have hfl := framed_length s
  have hcut : (framed s ++ t).take (2 + s.length + 4) = framed s := by rw [List.take_append_of_le_length (by omega), List.take_of_length_le (by omega)]
  have Hcut := hid hcut
  have hr : RdrAt (w.alloc (.cells #[str (framed s ++ t), .int .i64 0] 146)) w.heap.size (beBytes (s.length : Int) 2 ++ (s ++ (crcTail (crcSum (beBytes s.length 2 ++ s)) 4 ++ t))) 0 := by rw [← hsp]; exact alloc_new _ _
  generalize crcTail (crcSum (beBytes s.length 2 ++ s)) 4 = tl at hr htl hsp
  have hfull : (framed s ++ t).length = s.length + 6 + t.length := by rw [List.length_append, hfl]
  generalize framed s ++ t = full at *
  have hraw : ∀ (r : Nat) (w : World), RdrAt w r (s ++ (tl ++ t)) 0 → Calls Try.prog 76 #[rptr r, .int .i64 s.length] w fun en w' => en = .returned (str s) ∧ RdrAt w' r (tl ++ t) 0 ∧ Only r w w' := fun r w h => by
    have := octet_ReaderRaw r (s ++ (tl ++ t)) s.length w h (by simp) (by simp; omega)
    rwa [List.take_left, List.drop_left] at this
  have Hraw := hid hraw
  have hleft : ((s ++ (tl ++ t)).length : Int) = s.length + (4 + t.length) := by simp [htl]
  have Hleft := hid hleft
  have Hr := hid hr
  clear hraw hleft hr hcut hsp
  go_enter Try.func53, Try.ntmps53
  go_wp2_with fail
  refine (octet_Read _ _).mono ?_
  rintro e w' ⟨rfl, rfl⟩
  go_wp2_with fail
  refine (rd_num2 (s.length : Int) (by omega) _ (by simp; omega) _ _ Hr.out).mono ?_
  rintro e w1 ⟨rfl, hr1, hk1⟩
  go_wp2_with fail
  refine (octet_ReaderLeft _ _ 0 _ hr1).mono ?_
  rintro e w' ⟨rfl, rfl⟩
  rw [Hleft.out]
  go_wp2_with fail
  refine (Hraw.out _ _ hr1).mono ?_
  rintro e w2 ⟨rfl, hr2, hk2⟩
  go_wp2_with fail
  have hw1 : IntKind.i64.wrap (2 + (s.length : Int)) = 2 + (s.length : Int) := by rw [IntKind.wrap_i64]; omega
  have hw2 : IntKind.i64.wrap (2 + (s.length : Int) + 4) = 2 + (s.length : Int) + 4 := by rw [IntKind.wrap_i64]; omega
  have hp0 : 0 ≤ 2 + (s.length : Int) + 4 := by omega
  have hp1 : 2 + (s.length : Int) + 4 ≤ (s.length : Int) + 6 + (t.length : Int) := by omega
  have hp2 : (2 + (s.length : Int) + 4).toNat = 2 + s.length + 4 := by omega
  have hx : (ByteArray.mk full.toArray).extract 0 (2 + s.length + 4) = ByteArray.mk (framed s).toArray := by rw [str_extract, Hcut.out]; rfl
  go_region_law (first | (go_simp; go_at_call 57; refine (journal_framed s (by omega) _).mono ?_; rintro e w3 ⟨rfl, hk3⟩) | fail)
  all_goals
    go_wp2
    go_ret2
    refine ⟨rfl, ?_⟩
    have hk := (hk1.trans hk2)
    have hb2 : Below w.heap.size w w2 := (below_alloc w _).trans ⟨hk.os, hk.tape, hk.output, by have := hk.size; simp at this ⊢; omega, fun k hk' => hk.block k (by simp; omega) (by omega)⟩
    exact pu_trans (pu_drew hb2) hk3

theorem sl_strings : SlT Try.prog 86 9 1 16 := ⟨Try.underlying86, by kernel_rfl, by decide⟩
/-- Texts as cells. -/
def strCells (l : List Bytes) : List Value := l.map str
theorem strCells_one (l : List Bytes) : ∀ u ∈ strCells l, u.oneCell' = true := by
  intro u hu
  simp only [strCells, List.mem_map] at hu
  obtain ⟨b, _, rfl⟩ := hu
  rfl
theorem slices_Clone_strings (l : List Bytes) (hl : l.length ≤ 1000000) (v : Value) (w : World) (hv : Rd w 1 v l.length (strCells l)) :
    Calls Try.prog 55 #[v] w (RetOwn 9 1 l.length (strCells l) w) := by
  have hq := fun (w : World) (p : Option Addr) (n c : Nat) => Lib.run_eql_slice_nil (P := Try.prog) w 86 9 p n c 0 0 Try.underlying86
  obtain ⟨p, c, rfl⟩ := hv.form
  cases p with
  | none =>
    rcases hv.2 with ⟨h, h0⟩ | ⟨g, o, c', h, _⟩
    · have hl0 : l = [] := List.eq_nil_of_length_eq_zero h0
      subst hl0
      go_enter Try.func55, Try.ntmps55
      go_wp2
      go_ret
      exact ⟨_, rfl, Own.nil _ _ _, Fresh.nil _, Below.refl _ _⟩
    · cases h
  | some a =>
    have hown : ∀ (W : World) (g : Nat), g = W.heap.size → Own (W.alloc (.cells #[] 9)) 9 1 (.slice (some ⟨g, 0, none⟩) 0 0) 0 [] := fun W g hg => Own.lit W #[] _ 1 0 g hg rfl (by decide)
    have Hown := hid hown
    have Hv := hid hv
    clear hown hv
    go_enter Try.func55, Try.ntmps55
    go_wp2_with (at_builtin; refine wpList_app rfl _ _ rfl sl_strings _ _ _ rfl (Hown.out _ _ rfl) _ _ _ rfl (Hv.out.below (below_alloc _ _)) (strCells_one _) (by unfold maxLen; omega) (by omega) ?_; intro v2 w2 hap)
    go_ret
    have hf : Fresh w.heap.size (.slice (some ⟨w.heap.size, 0, none⟩) 0 0) := Fresh.at_ _ _ _ _ _ (Nat.le_refl _)
    have ho := hap.own
    rw [Nat.zero_add, List.nil_append] at ho
    exact ⟨v2, rfl, ho, hap.fresh hf (by simp), (below_alloc _ _).trans (hap.below hf (by simp))⟩

/-- A journal in its block: its disk, its list of records, was an error the disk's? -/
structure JrnAt (w : World) (j d : Nat) (v : Value) (l : List Bytes) (dead : Bool) : Prop where
  at_ : w.heap[j]? = some (.cells #[rptr d, v, .bool dead] 118 (0, 0))
  own : Own w 9 1 v l.length (strCells l)
theorem JrnAt.facts {w : World} {j d : Nat} {v : Value} {l : List Bytes} {dead : Bool} (h : JrnAt w j d v l dead) :
    w.cell? ⟨j, 0, none⟩ = some (rptr d) ∧ w.cell? ⟨j, 1, none⟩ = some v ∧ w.cell? ⟨j, 2, none⟩ = some (.bool dead) ∧ w.frozen? ⟨j, 0, none⟩ = false ∧ w.frozen? ⟨j, 1, none⟩ = false ∧ w.frozen? ⟨j, 2, none⟩ = false :=
  ⟨by rw [cell_of h.at_]; rfl, by rw [cell_of h.at_]; rfl, by rw [cell_of h.at_]; rfl, free_of h.at_ _, free_of h.at_ _, free_of h.at_ _⟩
theorem JrnAt.kept {S : Nat → Prop} {w w' : World} {j d : Nat} {v : Value} {l : List Bytes} {dead : Bool} (h : JrnAt w j d v l dead) (hk : Kp S w w') (hj : ¬ S j) (hv : ∀ k, v.ownBlock = some k → ¬ S k) : JrnAt w' j d v l dead :=
  ⟨hk.heap h.at_ hj, h.own.kept hk hv⟩
theorem JrnAt.below {w w' : World} {j d : Nat} {v : Value} {l : List Bytes} {dead : Bool} (h : JrnAt w j d v l dead) (hb : Below w.heap.size w w') : JrnAt w' j d v l dead :=
  h.kept (S := fun _ => False) (Kp.of_below hb) (fun f => f) (fun _ _ f => f)
theorem JrnAt.lt {w : World} {j d : Nat} {v : Value} {l : List Bytes} {dead : Bool} (h : JrnAt w j d v l dead) : j < w.heap.size := lt_of_block h.at_

theorem journal_Records (j d : Nat) (v : Value) (l : List Bytes) (dead : Bool) (w : World) (h : JrnAt w j d v l dead) (hl : l.length ≤ 1000000) :
    Calls Try.prog 34 #[rptr j] w (RetOwn 9 1 l.length (strCells l) w) := by
  obtain ⟨h0, h1, h2, -, -, -⟩ := h.facts
  go_enter Try.func34, Try.ntmps34
  go_wp2_with fail
  refine (slices_Clone_strings l hl v w h.own.rd).mono ?_
  rintro e w' ⟨v', rfl, hr⟩
  go_wp2
  go_ret
  exact ⟨v', rfl, hr⟩
end Go.Proofs.Ytlpnomejpaoeaaa
