/- The acts that the laws take; what the laws have of an acceptor, round by round. -/
import Derived.Test.YtlpnomejpaoeaaaSpeaks
import Derived.Test.YtlpnomejpaoeaaaSame
import Derived.Test.YtlpnomejpaoeaaaViewSame
import Derived.Test.YtlpnomejpaoeaaaNil
namespace Go.Proofs.Ytlpnomejpaoeaaa
set_option linter.unusedSimpArgs false
set_option linter.unusedVariables false
open Go.RowKit
set_option maxHeartbeats 400000
set_option maxRecDepth 20000

/-- An act. -/
structure LawAct where
  what : Int
  n : Int
  by_ : Int
  slot : Int
  c : Int
structure LawAct.fits (x : LawAct) : Prop where
  what : -9223372036854775808 ≤ x.what ∧ x.what ≤ 9223372036854775807
  b : (⟨x.n, x.by_⟩ : Ballot).fits
  slot : 0 ≤ x.slot ∧ x.slot < 4294967296
  c : 0 ≤ x.c ∧ x.c < 4294967296
abbrev actArr (x : LawAct) : Array Value := #[.int .i64 x.what, .int .u32 x.n, .int .u8 x.by_, .int .u32 x.slot, .int .u32 x.c]
def actCells (l : List LawAct) : List Value := l.flatMap fun x => (actArr x).toList
theorem actCells_at (l : List LawAct) (k i : Nat) (hk : k < l.length) (hi : i < 5) : (actCells l)[k * 5 + i]? = (actArr l[k]).toList[i]? := by
  induction l generalizing k with
  | nil => simp at hk
  | cons p l ih =>
    have h5 : ((actArr p).toList).length = 5 := rfl
    simp only [actCells, List.flatMap_cons] at ih ⊢
    cases k with
    | zero => rw [List.getElem?_append_left (by simp; omega)]; simp
    | succ k =>
      rw [List.getElem?_append_right (by simp; omega)]
      have : (k + 1) * 5 + i - ((actArr p).toList).length = k * 5 + i := by rw [h5]; omega
      rw [this, ih k (by simpa using hk)]
      rfl
/-- A slice of acts that came in. -/
def ActsAt (w : World) (v : Value) (l : List LawAct) : Prop := ∃ p cap, v = .slice p l.length cap ∧ (0 < l.length → Rd w 5 v l.length (actCells l))
theorem st_act : StT Try.prog 38 5 := StT.mk' Try.underlying38 rfl (by kernel_rfl)
theorem st_bal : StT Try.prog 42 2 := st_ballot

/-- A block that is none of an acceptor's. -/
structure Off (a : Ac) (g : Nat) : Prop where
  K : ¬ a.K g
  s : ¬ a.s.ownBlock = some g
theorem AcIs.lt {w : World} {a : Ac} {l : List Rec} {dead off : Bool} (h : AcIs w a l dead off) {k : Nat} (hk : a.K k) : k < w.heap.size := by
  rcases hk with e | e | e | e | e
  · rw [e]; exact h.acc.lt
  · rw [e]; exact h.acc.map.lt
  · rw [e]; exact h.jrn.lt
  · rw [e]; exact h.disk.lt
  · exact h.jrn.own.lt e
theorem AcIs.off_new {w : World} {a : Ac} {l : List Rec} {dead off : Bool} (h : AcIs w a l dead off) {g : Nat} (hg : w.heap.size ≤ g) : Off a g :=
  ⟨fun e => by have := h.lt e; omega, fun e => by have := h.acc.rd.lt e; omega⟩
theorem Off.next {a a' : Ac} {w : World} {g : Nat} (h : Off a g) (hn : a.next a' w) (hg : g < w.heap.size) : Off a' g :=
  ⟨fun e => by rcases hn.K g e with e | e; exact h.K e; omega, fun e => by rcases hn.s g e with e | e; exact h.s e; omega⟩

/-- What a law has of its acceptor in round n: w the world that it began in. -/
structure LawSt (w wr : World) (a : Ac) (l : List Rec) (n : Nat) : Prop where
  is : AcIs wr a l false false
  fits : Fits l
  len : l.length ≤ n + 1
  K : ∀ k, a.K k → w.heap.size ≤ k
  s : ∀ k, a.s.ownBlock = some k → w.heap.size ≤ k
  below : Below w.heap.size w wr
  inv : (replay l).inv
theorem LawSt.under {w wr wx : World} {a : Ac} {l : List Rec} {n : Nat} (h : LawSt w wr a l n) (hb : Below wr.heap.size wr wx) : LawSt w wx a l n :=
  ⟨h.is.below hb, h.fits, h.len, h.K, h.s, pu_trans h.below hb, h.inv⟩
/-- Blocks that are none of its own have turned. -/
theorem LawSt.kept {S : Nat → Prop} {w wr wx : World} {a : Ac} {l : List Rec} {n : Nat} (h : LawSt w wr a l n) (hk : Kp S wr wx) (hS : ∀ k, S k → Off a k ∧ w.heap.size ≤ k) : LawSt w wx a l n :=
  ⟨h.is.kept hk (fun k e hs => (hS k hs).1.K e) (fun k e hs => (hS k hs).1.s e), h.fits, h.len, h.K, h.s, below_kp h.below hk (fun k e => (hS k e).2), h.inv⟩
theorem LawSt.up {w wr : World} {a : Ac} {l : List Rec} {n m : Nat} (h : LawSt w wr a l n) (hm : n ≤ m) : LawSt w wr a l m :=
  ⟨h.is, h.fits, by have := h.len; omega, h.K, h.s, h.below, h.inv⟩
/-- A record was written. -/
theorem LawSt.wrote {w wr wx : World} {a a' : Ac} {l : List Rec} {r : Rec} {n : Nat} (h : LawSt w wr a l n) (hA : AcIs wx a' (l ++ [r]) false false) (hn : a.next a' wr) (hk : Kp a.K wr wx) (hr : r.fits) (hi : (replay (l ++ [r])).inv) : LawSt w wx a' (l ++ [r]) (n + 1) :=
  ⟨hA, fun q hq => by
      rcases List.mem_append.1 hq with hq | hq
      · exact h.fits q hq
      · simp only [List.mem_cons, List.not_mem_nil, or_false] at hq; subst hq; exact hr,
    by have := h.len; simp; omega, fun k e => by rcases hn.K k e with e | e; exact h.K k e; have := h.below.size; omega,
    fun k e => by rcases hn.s k e with e | e; exact h.s k e; have := h.below.size; omega, below_kp h.below hk h.K, hi⟩
theorem replay_promise (l : List Rec) (b : Ballot) : replay (l ++ [.promise b]) = { replay l with p := hi (replay l).p b } := replay_snoc l _
theorem replay_accept (l : List Rec) (x : Entry) : replay (l ++ [.accept x]) = { replay l with p := hi (replay l).p x.b, ents := entPut (replay l).ents x } := replay_snoc l _
theorem replay_cut (l : List Rec) (low : Int) (v : View) : replay (l ++ [.cut low v]) = (replay l).cut low v := replay_snoc l _
theorem St.inv.promise {st : St} (h : st.inv) (p : Ballot) : St.inv { st with p := p } := ⟨h.nodup, h.within⟩

theorem law_first (me : Int) (v : View) : replay [.birth me v] = St.init.cut 0 v := rfl
theorem law_first_inv (me : Int) (v : View) : (replay [.birth me v]).inv := ⟨by simp [law_first, St.cut, St.init], by simp [law_first, St.cut, St.init]⟩

/-- An act's cells, in the world that a round begins with. -/
theorem act_cells {w wr : World} {g o n cap : Nat} {l : List LawAct} (hv : Rd w 5 (.slice (some ⟨g, o, none⟩) n cap) l.length (actCells l)) (hb : Below w.heap.size w wr) {k : Nat} (hk : k < l.length) {i : Nat} {u : Value} (hi : i < 5) (hu : (actArr l[k]).toList[i]? = some u) : wr.cell? ⟨g, o + k * 5 + i, none⟩ = some u := by
  rcases hv.2 with ⟨h, _⟩ | ⟨g', o', c', he, _, _, hg, hc⟩
  · cases h
  · cases he
    rw [hb.cell (p := ⟨g, o + k * 5 + i, none⟩) hg, Nat.add_assoc]
    exact hc _ _ (by rw [actCells_at l k i hk hi]; exact hu)
theorem AcIs.redisk {w w' : World} {a : Ac} {l : List Rec} {dead off off' : Bool} (h : AcIs w a l dead off) (hk : Only a.d w w') (hd : DiskAt w' a.d (diskBytes (texts l)) (diskBytes (texts l)).length off') : AcIs w' a l dead off' :=
  ⟨h.acc.kept hk (fun e => h.Ad e) (fun e => h.md e) (fun k hk e => h.sd (by rw [← e]; exact hk)), h.jrn.kept hk (fun e => h.ap.jd e) (fun k hk e => h.ap.vd (by rw [← e]; exact hk)), hd, h.ap, h.Aj, h.Ad, h.mj, h.md, h.vA, h.vm, h.sj, h.sd, h.sv⟩
theorem run_field_mark (n y : Int) (w : World) : (Instr.field 42 (.agg #[.int .u32 n, .int .u8 y]) 0).run Try.prog w = .ok (.agg #[.int .u32 n, .int .u8 y]) w := by
  have z := fun w => st_mark.sizeOf w
  have g := fun w => st_mark.agg w
  unfold Instr.field
  simp only [Sem.run_bind, run_underlying Try.underlying42, Result.andThen_ok]
  go_simp
  rfl
theorem birth_fits (me n : Int) (h : 0 ≤ me ∧ me < 256) (hn : 0 ≤ n ∧ n < 4294967296) : Fits [.birth me (lawView n)] := fun r hr => by
  simp only [List.mem_cons, List.not_mem_nil, or_false] at hr
  subst hr
  exact ⟨h, lawView_good n hn⟩
/-- What a law has of an acceptor that was just opened. -/
theorem LawSt.opened {w wx wy : World} {d : Nat} {x : Ac} {me n : Int} {m : Nat} (h : 0 ≤ me ∧ me < 256) (hn : 0 ≤ n ∧ n < 4294967296) (hb : Below w.heap.size w wx) (hd : w.heap.size ≤ d)
    (hA : AcIs wy x [.birth me (lawView n)] false false) (hk : Only d wx wy) (hK : ∀ k, x.K k → k = d ∨ wx.heap.size ≤ k) (hs : ∀ k, x.s.ownBlock = some k → wx.heap.size ≤ k) : LawSt w wy x [.birth me (lawView n)] m :=
  ⟨hA, birth_fits me n h hn, by simp, fun k e => by rcases hK k e with e | e; omega; have := hb.size; omega, fun k e => by have := hs k e; have := hb.size; omega, below_kp hb hk (fun k e => by have : k = d := e; omega), law_first_inv _ _⟩
end Go.Proofs.Ytlpnomejpaoeaaa
