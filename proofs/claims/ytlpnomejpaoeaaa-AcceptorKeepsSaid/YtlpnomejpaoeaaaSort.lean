/- slices.SortFunc over entries, by their slots. -/
import Derived.Test.YtlpnomejpaoeaaaGet
import Derived.Test.YtlpnomejpaoeaaaShelf
import Derived.Shelf.SlSortCmp.NoneTotal
namespace Go.Proofs.Ytlpnomejpaoeaaa
set_option linter.unusedSimpArgs false
set_option linter.unusedVariables false
open Go.RowKit Go.Shelf Go.Sort
set_option maxHeartbeats 400000
set_option maxRecDepth 20000

instance : Inhabited Entry := ⟨⟨0, ⟨0, 0⟩, ⟨0, 0, 0, 0, 0⟩⟩⟩
def encE (x : Entry) : List Value := (entCells x).toList
theorem encE_length (x : Entry) : (encE x).length = 8 := rfl
def slotOrd (x y : Entry) : Int := Lib.compareInt x.slot y.slot
theorem ltSlot (x y : Entry) : ltOf slotOrd x y = decide (x.slot < y.slot) := by
  unfold ltOf slotOrd Lib.compareInt
  by_cases h1 : x.slot < y.slot
  · simp [h1]
  · by_cases h2 : y.slot < x.slot <;> simp [h1, h2]
theorem swoSlot : SWO (ltOf slotOrd) where
  irrefl x := by rw [ltSlot]; simp
  trans x y z h1 h2 := by rw [ltSlot] at *; simp at *; omega
  ntrans x y z h1 h2 := by rw [ltSlot] at *; simp at *; omega

theorem cmp_isNaN (x : Int) (w : World) : Calls Try.prog 73 #[.int .u32 x] w fun e w' => e = .returned (.bool false) ∧ w = w' := by
  go_enter Try.func73, Try.ntmps73
  go_wp2
  go_ret
  exact ⟨by simp, rfl⟩
theorem cmp_Compare (x y : Int) (w : World) : Calls Try.prog 43 #[.int .u32 x, .int .u32 y] w fun e w' => e = .returned (.int .i64 (Lib.compareInt x y)) ∧ w = w' := by
  go_enter Try.func43, Try.ntmps43
  go_wp2_with fail
  refine (cmp_isNaN x _).mono ?_
  rintro e w1 ⟨rfl, rfl⟩
  go_wp2_with fail
  refine (cmp_isNaN y _).mono ?_
  rintro e w1 ⟨rfl, rfl⟩
  go_wp2
  all_goals
    go_ret
    refine ⟨?_, rfl⟩
    first
    | (have h : Lib.compareInt x y = -1 := (by unfold Lib.compareInt; split <;> first | rfl | omega); rw [h]; rfl)
    | (have h : Lib.compareInt x y = 1 := (by unfold Lib.compareInt; split <;> first | rfl | omega | (split <;> first | rfl | omega)); rw [h]; rfl)
    | (have h : Lib.compareInt x y = 0 := (by unfold Lib.compareInt; split <;> first | rfl | omega | (split <;> first | rfl | omega)); rw [h]; rfl)
theorem entries_closure (x y : Entry) (w : World) : Calls Try.prog 42 #[.agg (encE x).toArray, .agg (encE y).toArray] w fun e w' => e = .returned (.int .i64 (slotOrd x y)) ∧ ∃ q os', w' = grow (w.drewN q) os' := by
  change Calls Try.prog 42 #[.agg (entCells x), .agg (entCells y)] w _
  go_enter Try.func42, Try.ntmps42
  go_wp2_with fail
  refine (cmp_Compare x.slot y.slot _).mono ?_
  rintro e w' ⟨rfl, rfl⟩
  go_wp2
  go_ret
  exact ⟨rfl, 0, _, by rw [alloc_eq_grow, alloc_eq_grow, grow_grow]; rfl⟩

def entsCells (l : List Entry) : List Value := l.flatMap encE
theorem entsCells_length (l : List Entry) : (entsCells l).length = l.length * 8 := by
  induction l with
  | nil => rfl
  | cons x l ih => simp only [entsCells, List.flatMap_cons, List.length_append, encE_length, List.length_cons] at ih ⊢; omega
theorem entsCells_at (l : List Entry) (k i : Nat) (hk : k < l.length) (hi : i < 8) : (entsCells l)[k * 8 + i]? = (encE l[k])[i]? := by
  induction l generalizing k with
  | nil => simp at hk
  | cons p l ih =>
    simp only [entsCells, List.flatMap_cons] at ih ⊢
    cases k with
    | zero => rw [List.getElem?_append_left (by simp [encE_length]; omega)]; simp
    | succ k =>
      rw [List.getElem?_append_right (by simp [encE_length]; omega)]
      have : (k + 1) * 8 + i - (encE p).length = k * 8 + i := by simp [encE_length]; omega
      rw [this, ih k (by simpa using hk)]
      simp
theorem entsCells_get (l : List Entry) (j : Nat) (hj : j < l.length * 8) : (entsCells l)[j]? = (encE (l[j / 8]!))[j % 8]? := by
  have h1 : j / 8 < l.length := by omega
  have h2 := entsCells_at l (j / 8) (j % 8) h1 (by omega)
  have h3 : j / 8 * 8 + j % 8 = j := by omega
  rw [h3] at h2
  rw [h2]
  congr 2
  rw [getElem!_pos l _ h1]
theorem entsCells_one (l : List Entry) : ∀ u ∈ entsCells l, u.oneCell' = true := by
  intro u hu
  simp only [entsCells, List.mem_flatMap] at hu
  obtain ⟨x, _, hx⟩ := hu
  exact entCells_one x u hx
theorem sl_entries : SlT Try.prog 45 58 8 24 := ⟨Try.underlying45, by kernel_rfl, by decide⟩

theorem holds_of_own {w : World} {e : TypeId} {g o n cap : Nat} {l : List Entry} (hn : n = l.length) (h : Own w e 8 (.slice (some ⟨g, o, none⟩) n cap) n (entsCells l)) : HoldsK encE 8 w g o l.toArray := by
  subst hn
  have hrd := h.rd
  rcases h.2 with ⟨h, _⟩ | ⟨g', o', cap', cur, fr, he, hg, hfr, hnc, hcm, hcs, htake⟩
  · cases h
  · cases he
    intro j hj
    have hj' : j < l.length * 8 := by simpa using hj
    have hx : (entsCells l)[j]? = some ((encE (l[j / 8]!))[j % 8]!) := by
      rw [entsCells_get l j hj']
      have : j % 8 < (encE l[j / 8]!).length := by rw [encE_length]; omega
      rw [List.getElem?_eq_getElem this, getElem!_pos (encE l[j / 8]!) (j % 8) this]
    refine ⟨?_, ?_⟩
    · rcases hrd.2 with ⟨h, _⟩ | ⟨g2, o2, c2, h2, _, _, _, hc⟩
      · cases h
      · cases h2
        rw [hc j _ hx, get_flatK encE 8 l.toArray j (by simpa using hj')]
        simp
    · have hlt : o + j < cur.size := by rw [hcs]; have : l.length * 8 ≤ cap * 8 := Nat.mul_le_mul_right 8 hnc; omega
      rcases hfr with rfl | hfr
      · simp [World.frozen?, hg]
      · obtain ⟨a, b⟩ := fr
        simp only [World.frozen?, hg]
        simp only [Bool.and_eq_false_iff, decide_eq_false_iff_not]
        left
        simp at hfr
        omega
/-- A list of entries is handed back, read only. -/
def RetEnts (p : List Entry → Prop) (w : World) (e : Ending) (w' : World) : Prop :=
  ∃ v l, p l ∧ e = .returned v ∧ Rd w' 8 v l.length (entsCells l) ∧ Fresh w.heap.size v ∧ Below w.heap.size w w'

theorem rd_of_holds {w : World} {g o cap : Nat} {l : List Entry} (hn : l.length ≤ cap) (hc : cap ≤ maxLen) (hg : g < w.heap.size) (h : HoldsK encE 8 w g o l.toArray) : Rd w 8 (.slice (some ⟨g, o, none⟩) l.length cap) l.length (entsCells l) := by
  refine ⟨entsCells_length l, .inr ⟨g, o, cap, rfl, hn, hc, hg, fun j u hj => ?_⟩⟩
  have hj' : j < l.length * 8 := by
    rw [← entsCells_length l]
    exact (List.getElem?_eq_some_iff.1 hj).1
  have h1 := (h j (by simpa using hj')).1
  rw [get_flatK encE 8 l.toArray j (by simpa using hj')] at h1
  rw [entsCells_get l j hj'] at hj
  have : j % 8 < (encE l[j / 8]!).length := by rw [encE_length]; omega
  rw [List.getElem?_eq_getElem this] at hj
  rw [h1]
  simp only [List.getElem!_toArray, id_eq]
  rw [getElem!_pos (encE l[j / 8]!) (j % 8) this]
  exact hj

/-- The sort of a list of the code's own. -/
def Sorted (l : List Entry) (w : World) (v : Value) (e : Ending) (w' : World) : Prop :=
  ∃ l', l'.Perm l ∧ l'.Pairwise (fun x y => ¬ y.slot < x.slot) ∧ e = .returned (.tuple #[]) ∧ Rd w' 8 v l'.length (entsCells l') ∧ Kp (fun k => v.ownBlock = some k) w w'
theorem sorted_list {d d' : Array Entry} (hp : PermIn 0 d.size d d') (hs : SortedIn (ltOf slotOrd) 0 d.size d') : d'.toList.Perm d.toList ∧ d'.toList.Pairwise (fun x y => ¬ y.slot < x.slot) := by
  obtain ⟨h1, _, h3⟩ := hp
  refine ⟨?_, ?_⟩
  · have e1 : d'.extract 0 d.size = d' := by rw [← h1]; simp
    have e2 : d.extract 0 d.size = d := by simp
    rwa [e1, e2] at h3
  · rw [List.pairwise_iff_getElem]
    intro i j hi hj hij
    simp only [Array.length_toList] at hi hj
    have := hs i j (Nat.zero_le _) hij (by omega)
    rw [ltSlot, getElem!_pos d' j hj, getElem!_pos d' i hi] at this
    simpa using this
theorem slices_SortFunc (l : List Entry) (hl : l.length ≤ 100000) (v : Value) (w : World) (h : Own w 58 8 v l.length (entsCells l)) :
    Calls Try.prog 41 #[v, .func (.func 42) #[] #[]] w (Sorted l w v) := by
  rcases h.2 with ⟨rfl, h0⟩ | ⟨g, o, cap, cur, fr, rfl, hg, hfr, hnc, hcm, hcs, htake⟩
  · have hl0 : l = [] := List.eq_nil_of_length_eq_zero h0
    subst hl0
    have hcon := AnyF.slices_SortFunc_none Try.sortEnt none 0 (.func (.func 42) #[] #[]) w
    change Calls Try.prog 41 _ _ _ at hcon
    refine hcon.mono ?_
    rintro e w' ⟨rfl, rfl⟩
    exact ⟨[], List.Perm.refl _, List.Pairwise.nil, rfl, Rd.nil _ _, Kp.refl _ _⟩
  · have eg : ∀ args w, (callFunc 42 args).run Try.prog w = .ok (.enter 42 args) w := enters_of Try.func42 (by kernel_rfl) rfl
    have hH := holds_of_own rfl h
    have hblk := lt_of_block hg
    have hcon := AnyQ.slices_SortFunc Try.sortEnt 8 st_entry.agg st_entry.sizeOf encE encE_length (fun x v hv => entCells_one x v hv) slotOrd swoSlot 42 #[] g o cap l.toArray w eg (fun _ _ _ _ x y => entries_closure x y _) hH hblk (by simp; omega)
    have hsz : l.toArray.size = l.length := by simp
    rw [hsz] at hcon
    change Calls Try.prog 41 _ _ _ at hcon
    refine hcon.mono ?_
    rintro e w' ⟨rfl, d', n, os, hp, hs, rfl⟩
    have hp' : PermIn 0 l.toArray.size l.toArray d' := by rw [hsz]; exact hp
    have hs' : SortedIn (ltOf slotOrd) 0 l.toArray.size d' := by rw [hsz]; exact hs
    obtain ⟨q1, q2⟩ := sorted_list hp' hs'
    have hd : d'.size = l.toArray.size := hp'.1
    have hH' : HoldsK encE 8 (sortWorldK encE 8 w g o n d' os) g o d' := by
      unfold sortWorldK
      refine holdsK_grow encE 8 _ os g o d' ?_ (holdsK_putRowK encE 8 (Sort.ahead w n) g o l.toArray d' (holdsK_ahead encE 8 w n g o _ hH) hd)
      simpa [putRowK, putRow, mapBlock, Sort.ahead] using hblk
    have hlen : d'.toList.length = l.length := by simp [hd]
    refine ⟨d'.toList, by simpa using q1, q2, rfl, ?_, ?_⟩
    · have := rd_of_holds (w := sortWorldK encE 8 w g o n d' os) (g := g) (o := o) (cap := cap) (l := d'.toList) (by omega) hcm (by simp [sortWorldK, grow, putRowK, putRow, mapBlock, Sort.ahead]; omega) (by simpa using hH')
      rw [hlen] at this ⊢
      exact this
    · refine ⟨rfl, rfl, rfl, by simp [sortWorldK, grow, putRowK, putRow, mapBlock, Sort.ahead], fun k hk hne => ?_⟩
      have hkg : ¬ g = k := fun e => hne (by simp [Value.ownBlock, e])
      simp [sortWorldK, grow, putRowK, putRow, mapBlock, Sort.ahead, Array.getElem?_append, Array.getElem?_modify, hk, hkg, Array.getElem_modify]
end Go.Proofs.Ytlpnomejpaoeaaa
