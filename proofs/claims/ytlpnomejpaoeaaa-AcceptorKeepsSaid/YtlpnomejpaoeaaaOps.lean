/- The acceptor's operations, as the laws have them. -/
import Derived.Test.YtlpnomejpaoeaaaActs
namespace Go.Proofs.Ytlpnomejpaoeaaa
set_option linter.unusedSimpArgs false
set_option linter.unusedVariables false
open Go.RowKit
set_option maxHeartbeats 400000
set_option maxRecDepth 20000

section
variable {w W : World} {a : Ac} {r : List Rec} {n A : Nat}

theorem LawSt.small (H : LawSt w W a r n) (hn : n ≤ 100) : (replay r).ents.length ≤ 1000 ∧ r.length ≤ 900 := by
  have h1 := replay_len r
  have h2 := H.len
  omega
theorem LawSt.ok (H : LawSt w W a r n) : (replay r).ok := replay_ok H.fits
theorem st_Promised (HA : a.A = A) (H : LawSt w W a r n) :
    Calls Try.prog 12 #[rptr A] W fun e w' => e = .returned (.agg (balArr (replay r).p)) ∧ Below W.heap.size W w' := by
  subst HA
  exact acceptor_Promised a.A a.j _ _ _ _ H.is.acc
theorem st_Entries (HA : a.A = A) (H : LawSt w W a r n) (hn : n ≤ 100) (f : Int) :
    Calls Try.prog 13 #[rptr A, .int .u32 f] W (RetEnts (EntsFrom (replay r).ents f) W) := by
  subst HA
  exact acceptor_Entries a.A a.j _ _ _ f _ H.is.acc (H.small hn).1
theorem st_Base (HA : a.A = A) (H : LawSt w W a r n) :
    Calls Try.prog 14 #[rptr A] W (RetBase (replay r).low (replay r).base W) := by
  subst HA
  exact acceptor_Base a.A a.j _ _ _ _ H.is.acc (by have := H.ok.base.2; omega)

/-- An operation has turned the acceptor. -/
structure Turned (w W w' : World) (a a' : Ac) (A : Nat) (r r' : List Rec) (n : Nat) : Prop where
  A : a'.A = A
  law : LawSt w w' a' r' (n + 1)
  next : a.next a' W
  kp : Kp a.K W w'
theorem Turned.off {w' : World} {a' : Ac} {r' : List Rec} {g : Nat} (h : Turned w W w' a a' A r r' n) (ho : Off a g) (hg : g < W.heap.size) : Off a' g := ho.next h.next hg
theorem Turned.heap {w' : World} {a' : Ac} {r' : List Rec} {g : Nat} {o : Obj} (h : Turned w W w' a a' A r r' n) (ho : Off a g) (hg : W.heap[g]? = some o) : w'.heap[g]? = some o := h.kp.heap hg ho.K

/-- An acceptor was turned, and hands back entries. -/
def TurnedEnts (w W : World) (a : Ac) (A : Nat) (r : List Rec) (n : Nat) (st' : St) (f : Int) (e : Ending) (w' : World) : Prop :=
  ∃ a' r' v out, e = .returned (.tuple #[v, .int .i64 0]) ∧ Turned w W w' a a' A r r' n ∧ replay r' = st' ∧ EntsFrom st'.ents f out ∧ Rd w' 8 v out.length (entsCells out) ∧ Fresh W.heap.size v ∧ (∃ ext, r' = r ++ ext)
/-- An acceptor was turned. -/
def TurnedTo (w W : World) (a : Ac) (A : Nat) (r : List Rec) (n : Nat) (st' : St) (e : Ending) (w' : World) : Prop :=
  ∃ a' r', e = .returned (.int .i64 0) ∧ Turned w W w' a a' A r r' n ∧ replay r' = st' ∧ (∃ ext, r' = r ++ ext)

theorem below_antisymm {p b : Ballot} (h1 : p.below b = false) (h2 : b.below p = false) : p = b := by
  obtain ⟨pn, py⟩ := p
  obtain ⟨bn, by'⟩ := b
  simp only [Ballot.below, Bool.or_eq_false_iff, decide_eq_false_iff_not, Bool.and_eq_false_iff, beq_eq_false_iff_ne, ne_eq] at h1 h2
  rw [Ballot.mk.injEq]
  omega
theorem prepErr_ok {st : St} {b : Ballot} {f : Int} (h : prepErr st b f = 0) : b.below st.p = false ∧ st.low ≤ f := by
  unfold prepErr at h
  split at h
  · cases h
  · split at h
    · cases h
    · rename_i h1 h2
      exact ⟨by simpa using h2, by omega⟩
theorem acceptErr_ok {st : St} {b : Ballot} {s : Int} (h : acceptErr st b s = 0) : b.below st.p = false ∧ st.low ≤ s := by
  unfold acceptErr at h
  split at h
  · cases h
  · split at h
    · cases h
    · split at h
      · cases h
      · rename_i h1 h2 h3
        exact ⟨by simpa using h3, by omega⟩

theorem st_Prepare (HA : a.A = A) (H : LawSt w W a r n) (hn : n ≤ 100) (b : Ballot) (hb : b.fits) (f : Int) (he : prepErr (replay r) b f = 0) :
    Calls Try.prog 15 #[rptr A, .agg (balArr b), .int .u32 f] W (TurnedEnts w W a A r n { replay r with p := b } f) := by
  subst HA
  have hbp := (prepErr_ok he).1
  refine (acceptor_Prepare a r b hb f W H.is H.fits (H.small hn).2 he).mono ?_
  rintro e w' ⟨a', v, out, rfl, hA, hnx, hk, hef, hrd, hfr⟩
  by_cases hpb : (replay r).p.below b = true
  · rw [if_pos hpb] at hA hef
    have hre : replay (r ++ [.promise b]) = { replay r with p := b } := by rw [replay_promise, hi_eq H.ok.p hb hbp]
    refine ⟨a', r ++ [.promise b], v, out, rfl, ⟨hnx.A, H.wrote (r := .promise b) hA hnx hk hb ?_, hnx, hk⟩, hre, ?_, hrd, hfr, _, rfl⟩
    · rw [hre]; exact H.inv.promise _
    · rw [← hre]; exact hef
  · have hpb : (replay r).p.below b = false := by simpa using hpb
    rw [if_neg (by simp [hpb])] at hA hef
    have hp := below_antisymm hpb hbp
    have hre : replay r = { replay r with p := b } := by rw [← hp]
    refine ⟨a', r, v, out, rfl, ⟨hnx.A, ⟨hA, H.fits, by have := H.len; omega, fun k e => by rcases hnx.K k e with e | e; exact H.K k e; have := H.below.size; omega,
      fun k e => by rcases hnx.s k e with e | e; exact H.s k e; have := H.below.size; omega, below_kp H.below hk H.K, H.inv⟩, hnx, hk⟩, hre, ?_, hrd, hfr, [], by simp⟩
    · rw [← hre]; exact hef
theorem st_Prepare_no (HA : a.A = A) (H : LawSt w W a r n) (b : Ballot) (f : Int) (he : prepErr (replay r) b f ≠ 0) :
    Calls Try.prog 15 #[rptr A, .agg (balArr b), .int .u32 f] W fun e w' => e = .returned (.tuple #[.slice none 0 0, .int .i64 (prepErr (replay r) b f)]) ∧ Below W.heap.size W w' := by
  subst HA
  exact acceptor_Prepare_no a.A a.j _ _ _ b f _ H.is.acc he
theorem st_Accept (HA : a.A = A) (H : LawSt w W a r n) (hn : n ≤ 100) (b : Ballot) (hb : b.fits) (s : Int) (hs : 0 ≤ s ∧ s < 4294967296) (c : Cmd) (hc : c.fits) (he : acceptErr (replay r) b s = 0) :
    Calls Try.prog 17 #[rptr A, .agg (balArr b), .int .u32 s, .agg (cmdCells c)] W (TurnedTo w W a A r n { replay r with p := hi (replay r).p b, ents := entPut (replay r).ents ⟨s, b, c⟩ }) := by
  subst HA
  refine (acceptor_Accept a r b hb s hs c hc W H.is H.fits (by have := (H.small hn).2; omega) he).mono ?_
  rintro e w' ⟨a', rfl, hA, hnx, hk⟩
  refine ⟨a', _, rfl, ⟨hnx.A, H.wrote (r := .accept ⟨s, b, c⟩) hA hnx hk ⟨hs, hb, hc⟩ ?_, hnx, hk⟩, replay_accept _ _, _, rfl⟩
  rw [replay_accept]
  exact H.inv.accept he
theorem st_Accept_no (HA : a.A = A) (H : LawSt w W a r n) (b : Ballot) (s : Int) (hs : 0 ≤ s ∧ s < 4294967296) (c : Cmd) (he : acceptErr (replay r) b s ≠ 0) :
    Calls Try.prog 17 #[rptr A, .agg (balArr b), .int .u32 s, .agg (cmdCells c)] W fun e w' => e = .returned (.int .i64 (acceptErr (replay r) b s)) ∧ Below W.heap.size W w' := by
  subst HA
  exact acceptor_Accept_no a.A a.j _ _ _ b s c _ H.is.acc hs H.ok.low.1 he
theorem st_Truncate (HA : a.A = A) (H : LawSt w W a r n) (hn : n ≤ 100) (low : Int) (hlo : 0 ≤ low ∧ low < 4294967296) (v : View) (hv : v.good) (s : Value) (hs : Rd W 3 s v.members.length (memCells v.members)) (he : (replay r).low < low) :
    Calls Try.prog 19 #[rptr A, .int .u32 low, .agg (viewCells v s)] W (TurnedTo w W a A r n ((replay r).cut low v)) := by
  subst HA
  refine (acceptor_Truncate a r low hlo v hv s W H.is hs H.fits (by have := (H.small hn).2; omega) he).mono ?_
  rintro e w' ⟨a', rfl, hA, hnx, hk⟩
  refine ⟨a', _, rfl, ⟨hnx.A, H.wrote (r := .cut low v) hA hnx hk ⟨hlo, hv⟩ ?_, hnx, hk⟩, replay_cut _ _ _, _, rfl⟩
  rw [replay_cut]
  exact H.inv.cut _ _
theorem st_Truncate_no (HA : a.A = A) (H : LawSt w W a r n) (low : Int) (v : View) (hv : v.members.length ≤ 8) (s : Value) (hs : Rd W 3 s v.members.length (memCells v.members)) (he : low ≤ (replay r).low) :
    Calls Try.prog 19 #[rptr A, .int .u32 low, .agg (viewCells v s)] W fun e w' => e = .returned (.int .i64 0) ∧ Below W.heap.size W w' := by
  subst HA
  exact acceptor_Truncate_no a.A a.j _ _ _ low v hv s _ H.is.acc hs he
end
end Go.Proofs.Ytlpnomejpaoeaaa
