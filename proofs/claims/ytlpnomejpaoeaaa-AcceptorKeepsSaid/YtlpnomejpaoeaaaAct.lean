/- Package acceptor: Accept, Prepare, Truncate. -/
import Derived.Test.YtlpnomejpaoeaaaEnts
namespace Go.Proofs.Ytlpnomejpaoeaaa
set_option linter.unusedSimpArgs false
set_option linter.unusedVariables false
open Go.RowKit
set_option maxHeartbeats 400000
set_option maxRecDepth 20000

/-- An acceptor's state that fits its fields. -/
structure St.ok (st : St) : Prop where
  low : 0 ≤ st.low ∧ st.low < 4294967296
  p : st.p.fits
  base : st.base.good
  ents : ∀ x ∈ st.ents, x.fits
theorem hi_fits {p b : Ballot} (hp : p.fits) (hb : b.fits) : (hi p b).fits := by
  have hz : Ballot.zero.fits := by simp [Ballot.fits, Ballot.zero]
  unfold hi highest
  simp only [List.foldl_cons, List.foldl_nil]
  split <;> split <;> first | exact hb | exact hp | exact hz
theorem entPut_mem {l : List Entry} {x y : Entry} (h : y ∈ entPut l x) : y ∈ l ∨ y = x := by
  unfold entPut at h
  split at h
  · obtain ⟨z, hz, rfl⟩ := List.mem_map.1 h
    split
    · exact .inr rfl
    · exact .inl hz
  · simpa using h
theorem St.ok.cut {st : St} (h : st.ok) {low : Int} {v : View} (hl : 0 ≤ low ∧ low < 4294967296) (hv : v.good) : (st.cut low v).ok :=
  ⟨by have := h.low; simp only [St.cut]; omega, h.p, hv, fun x hx => h.ents x (List.mem_filter.1 hx).1⟩
theorem St.ok.step {st : St} (h : st.ok) {r : Rec} (hr : r.fits) : (st.step r).ok := by
  cases r with
  | promise b => exact ⟨h.low, hi_fits h.p hr, h.base, h.ents⟩
  | accept x => exact ⟨h.low, hi_fits h.p hr.2.1, h.base, fun y hy => by
      rcases entPut_mem hy with hy | rfl
      · exact h.ents y hy
      · exact hr⟩
  | birth self v => exact h.cut (by omega) hr.2
  | cut low v => exact h.cut hr.1 hr.2
theorem St.init_ok : St.init.ok :=
  ⟨by simp [St.init], by simp [St.init, Ballot.fits, Ballot.zero], ⟨⟨by simp [St.init, View.none], by simp [St.init, View.none], rfl, by simp [St.init, View.none]⟩, by simp [St.init, View.none]⟩, by simp [St.init]⟩
theorem replay_ok {l : List Rec} (h : Fits l) : (replay l).ok := by
  suffices ∀ (l : List Rec) (st : St), st.ok → Fits l → (l.foldl St.step st).ok from this l _ St.init_ok h
  intro l
  induction l with
  | nil => intro st h _; exact h
  | cons r l ih => intro st h hl; exact ih _ (h.step (hl r (by simp))) (fun q hq => hl q (by simp [hq]))

abbrev cmdCells (c : Cmd) : Array Value := #[.int .u8 c.kind, .int .u8 c.node, .int .u8 c.life, .int .u32 c.epoch, .int .u32 c.req]
/-- Accept's answer before it writes. -/
def acceptErr (st : St) (b : Ballot) (slot : Int) : Int :=
  if slot < st.low then 9 else if 16 ≤ slot - st.low then 6 else if b.below st.p then 8 else 0

/-- The facts of Accept's and Prepare's boxes. -/
theorem box_facts {w : World} {A : Nat} {n y : Value} (hlt : A < w.heap.size) (c1 : w.cell? ⟨A, 1, none⟩ = some n) (c2 : w.cell? ⟨A, 2, none⟩ = some y) (b : Ballot) (o : Obj) :
    ((w.alloc (.cells (balArr b) 42)).alloc o).cell? ⟨w.heap.size, 0, none⟩ = some (.int .u32 b.n) ∧ ((w.alloc (.cells (balArr b) 42)).alloc o).cell? ⟨w.heap.size, 1, none⟩ = some (.int .u8 b.by_) ∧
      ((w.alloc (.cells (balArr b) 42)).alloc o).cell? ⟨A, 1, none⟩ = some n ∧ ((w.alloc (.cells (balArr b) 42)).alloc o).cell? ⟨A, 2, none⟩ = some y := by
  have hB : Below w.heap.size w ((w.alloc (.cells (balArr b) 42)).alloc o) := pu_alloc (pu_alloc (pu_refl w) _) _
  have g := alloc_old (x := o) (alloc_new w (.cells (balArr b) 42))
  exact ⟨by rw [cell_of g]; rfl, by rw [cell_of g]; rfl, cell_keep hB c1, cell_keep hB c2⟩

set_option maxHeartbeats 1000000 in
theorem acceptor_Accept_no (A j : Nat) (st : St) (s : Value) (m : Nat) (b : Ballot) (slot : Int) (c : Cmd) (w : World) (h : AccAt w A j st s m) (hs : 0 ≤ slot ∧ slot < 4294967296) (hlo : 0 ≤ st.low) (he : acceptErr st b slot ≠ 0) :
    Calls Try.prog 17 #[rptr A, .agg (balArr b), .int .u32 slot, .agg (cmdCells c)] w fun e w' => e = .returned (.int .i64 (acceptErr st b slot)) ∧ Below w.heap.size w w' := by
  have hlt := h.lt
  have c1 : w.cell? ⟨A, 1, none⟩ = some (.int .u32 st.p.n) := by rw [cell_of h.at_]; rfl
  have c2 : w.cell? ⟨A, 2, none⟩ = some (.int .u8 st.p.by_) := by rw [cell_of h.at_]; rfl
  have c3 : w.cell? ⟨A, 3, none⟩ = some (.int .u32 st.low) := by rw [cell_of h.at_]; rfl
  have hB : Below w.heap.size w ((w.alloc (.cells (balArr b) 42)).alloc (.cells (cmdCells c) 54)) := pu_alloc (pu_alloc (pu_refl w) _) _
  have HB := hid hB
  clear h hB
  by_cases h1 : slot < st.low
  · have hv : acceptErr st b slot = 9 := by simp [acceptErr, h1]
    rw [hv]
    go_enter Try.func17, Try.ntmps17
    go_wp2
    go_ret
    exact ⟨rfl, HB.out⟩
  · have hwr : IntKind.u32.wrap (slot - st.low) = slot - st.low := by rw [IntKind.wrap_u32]; omega
    by_cases h2 : 16 ≤ slot - st.low
    · have hv : acceptErr st b slot = 6 := by simp [acceptErr, h1, h2]
      rw [hv]
      go_enter Try.func17, Try.ntmps17
      go_wp2
      go_ret
      exact ⟨rfl, HB.out⟩
    · have h3 : b.below st.p = true := by
        by_cases h3 : b.below st.p = true
        · exact h3
        · simp [acceptErr, h1, h2, h3] at he
      have hv : acceptErr st b slot = 8 := by simp [acceptErr, h1, h2, h3]
      rw [hv]
      go_enter Try.func17, Try.ntmps17
      go_wp2_with fail
      obtain ⟨d0, d1, d2, d3⟩ := box_facts hlt c1 c2 b (.cells (cmdCells c) 54)
      generalize hW : World.alloc (World.alloc w _) _ = W at *
      go_region_held3 (fun w' => w'.cell? ⟨w.heap.size, 0, none⟩ = some (.int .u32 b.n) ∧ w'.cell? ⟨w.heap.size, 1, none⟩ = some (.int .u8 b.by_) ∧ w'.cell? ⟨A, 1, none⟩ = some (.int .u32 st.p.n) ∧ w'.cell? ⟨A, 2, none⟩ = some (.int .u8 st.p.by_)) (first | (apply cell_keep4 <;> assumption) | go_keep) (first | (go_at_call 16; refine (mark_Below b st.p _).mono ?_; rintro e w1 ⟨rfl, hk1⟩))
      have hbW : Below w.heap.size w W := HB.out
      have hb1 : Below w.heap.size w w1 := pu_trans (pu_drew hbW) hk1
      go_wp2
      go_ret
      exact ⟨rfl, hb1⟩

theorem record_accept (x : Entry) : record 3 (acceptedParts x) = (Rec.accept x).bytes := by
  simp [record, partBytes, acceptedParts, Rec.bytes, cmdBytes, Part.bytes, Part.num]
theorem record_promise (b : Ballot) : record 2 [Part.num b.n 4, Part.num b.by_ 1] = (Rec.promise b).bytes := by
  simp [record, partBytes, Rec.bytes, Part.bytes, Part.num]
theorem viewParts_bytes (low : Int) (v : View) : partBytes (viewParts low v) = beBytes low 4 ++ (viewBytes v ++ []) := by
  have h : ∀ l : List Member, partBytes (l.flatMap memParts) = l.flatMap memBytes := by
    intro l
    induction l with
    | nil => rfl
    | cons p l ih =>
      simp only [List.flatMap_cons]
      rw [← ih]
      simp [partBytes, memParts, memBytes, Part.bytes, Part.num]
  simp only [viewParts, partBytes, List.flatMap_append] at h ⊢
  rw [h]
  simp [headParts, viewBytes, Part.bytes, Part.num, Part.raw]
theorem record_cut (low : Int) (v : View) : record 4 (viewParts low v) = (Rec.cut low v).bytes := by
  have := viewParts_bytes low v
  simp only [record, Rec.bytes]
  rw [← this]
  simp [partBytes, Part.bytes, Part.num]
theorem record_birth (self : Int) (v : View) : record 1 (Part.num self 1 :: viewParts 0 v) = (Rec.birth self v).bytes := by
  have := viewParts_bytes 0 v
  simp only [record, Rec.bytes]
  rw [← this]
  simp [partBytes, Part.bytes, Part.num]
end Go.Proofs.Ytlpnomejpaoeaaa
