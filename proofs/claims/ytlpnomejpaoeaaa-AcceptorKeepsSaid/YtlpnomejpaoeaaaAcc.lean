/- Package acceptor: an acceptor and its journal. -/
import Derived.Test.YtlpnomejpaoeaaaTake
namespace Go.Proofs.Ytlpnomejpaoeaaa
set_option linter.unusedSimpArgs false
set_option linter.unusedVariables false
open Go.RowKit
set_option maxHeartbeats 400000
set_option maxRecDepth 20000

def View.none : View := ⟨0, [], [0, 0, 0, 0, 0, 0, 0, 0]⟩
def St.init : St := ⟨Ballot.zero, 0, View.none, []⟩
/-- What an acceptor has behind its records. -/
def replay (l : List Rec) : St := l.foldl St.step St.init
theorem replay_snoc (l : List Rec) (r : Rec) : replay (l ++ [r]) = (replay l).step r := by simp [replay]
def texts (l : List Rec) : List Bytes := l.map Rec.bytes

/-- An acceptor's handles: its block, its disk's, its journal's, its map's; its base's list, its journal's list. -/
structure Ac where
  A : Nat
  d : Nat
  j : Nat
  m : Nat
  s : Value
  v : Value
/-- The blocks of an acceptor that may turn. -/
def Ac.K (a : Ac) (k : Nat) : Prop := k = a.A ∨ k = a.m ∨ k = a.j ∨ k = a.d ∨ a.v.ownBlock = some k
structure AcIs (w : World) (a : Ac) (l : List Rec) (dead off : Bool) : Prop where
  acc : AccAt w a.A a.j (replay l) a.s a.m
  jrn : JrnAt w a.j a.d a.v (texts l) dead
  disk : DiskAt w a.d (diskBytes (texts l)) (diskBytes (texts l)).length off
  ap : Apart3 a.j a.d a.v
  Aj : ¬ a.A = a.j
  Ad : ¬ a.A = a.d
  mj : ¬ a.m = a.j
  md : ¬ a.m = a.d
  vA : ¬ a.v.ownBlock = some a.A
  vm : ¬ a.v.ownBlock = some a.m
  sj : ¬ a.s.ownBlock = some a.j
  sd : ¬ a.s.ownBlock = some a.d
  sv : ∀ k, a.s.ownBlock = some k → ¬ a.v.ownBlock = some k
/-- The same acceptor, later. -/
structure Ac.next (a a' : Ac) (w : World) : Prop where
  A : a'.A = a.A
  d : a'.d = a.d
  j : a'.j = a.j
  m : a'.m = a.m
  s : ∀ k, a'.s.ownBlock = some k → a.s.ownBlock = some k ∨ w.heap.size ≤ k
  v : ∀ k, a'.v.ownBlock = some k → a.v.ownBlock = some k ∨ w.heap.size ≤ k
theorem Ac.next.refl (a : Ac) (w : World) : a.next a w := ⟨rfl, rfl, rfl, rfl, fun _ h => .inl h, fun _ h => .inl h⟩
theorem Ac.next.K {a a' : Ac} {w : World} (h : a.next a' w) (k : Nat) (hk : a'.K k) : a.K k ∨ w.heap.size ≤ k := by
  unfold Ac.K at *
  rw [h.A, h.d, h.j, h.m] at hk
  rcases hk with e | e | e | e | e
  · exact .inl (.inl e)
  · exact .inl (.inr (.inl e))
  · exact .inl (.inr (.inr (.inl e)))
  · exact .inl (.inr (.inr (.inr (.inl e))))
  · rcases h.v k e with e | e
    · exact .inl (.inr (.inr (.inr (.inr e))))
    · exact .inr e
theorem AcIs.kept {S : Nat → Prop} {w w' : World} {a : Ac} {l : List Rec} {dead off : Bool} (h : AcIs w a l dead off) (hk : Kp S w w') (hK : ∀ k, a.K k → ¬ S k) (hs : ∀ k, a.s.ownBlock = some k → ¬ S k) : AcIs w' a l dead off :=
  ⟨h.acc.kept hk (hK _ (.inl rfl)) (hK _ (.inr (.inl rfl))) hs, h.jrn.kept hk (hK _ (.inr (.inr (.inl rfl)))) (fun k e => hK k (.inr (.inr (.inr (.inr e))))), h.disk.kept hk (hK _ (.inr (.inr (.inr (.inl rfl))))), h.ap, h.Aj, h.Ad, h.mj, h.md, h.vA, h.vm, h.sj, h.sd, h.sv⟩
theorem AcIs.below {w w' : World} {a : Ac} {l : List Rec} {dead off : Bool} (h : AcIs w a l dead off) (hb : Below w.heap.size w w') : AcIs w' a l dead off :=
  h.kept (S := fun _ => False) (Kp.of_below hb) (fun _ _ f => f) (fun _ _ f => f)

theorem Rec.len (r : Rec) (h : r.fits) : 1 ≤ r.bytes.length ∧ r.bytes.length ≤ 50 := by
  cases r with
  | promise b => simp [Rec.bytes, beBytes_length]
  | accept x => simp [Rec.bytes, beBytes_length, cmdBytes_length]
  | birth s v => obtain ⟨_, _, hv⟩ := h; simp [Rec.bytes, beBytes_length, viewBytes_length]; omega
  | cut low v => obtain ⟨_, _, hv⟩ := h; simp [Rec.bytes, beBytes_length, viewBytes_length]; omega
/-- Records that fit. -/
def Fits (l : List Rec) : Prop := ∀ r ∈ l, r.fits
theorem Fits.ok {l : List Rec} (h : Fits l) : RecsOk (texts l) := by
  intro r hr
  obtain ⟨x, hx, rfl⟩ := List.mem_map.1 hr
  have := x.len (h x hx)
  omega
theorem disk_len {l : List Rec} (h : Fits l) : (diskBytes (texts l)).length ≤ l.length * 56 := by
  induction l with
  | nil => simp [texts, diskBytes]
  | cons r l ih =>
    have := ih (fun q hq => h q (by simp [hq]))
    have h1 := r.len (h r (by simp))
    have e : texts (r :: l) = r.bytes :: texts l := rfl
    rw [e, diskBytes_cons, List.length_append, framed_length, List.length_cons]
    omega

/-- A record was written. -/
def Wrote (w : World) (a : Ac) (l : List Rec) (r : Rec) (e : Ending) (w' : World) : Prop :=
  ∃ a', e = .returned (.int .i64 0) ∧ AcIs w' a' (l ++ [r]) false false ∧ a.next a' w ∧ Kp a.K w w'

theorem acceptor_write (a : Ac) (l : List Rec) (r : Rec) (w : World) (h : AcIs w a l false false) (hl : Fits l) (hn : l.length ≤ 10000) (hr : r.fits) :
    Calls Try.prog 45 #[rptr a.A, str r.bytes] w (Wrote w a l r) := by
  have h0 : w.cell? ⟨a.A, 0, none⟩ = some (rptr a.j) := by rw [cell_of h.acc.at_]; rfl
  have hrl := r.len hr
  have hdl := disk_len hl
  have Hrl := hid hrl
  have Hdl := hid hdl
  have H := hid h
  clear h hrl hdl
  go_enter Try.func45, Try.ntmps45
  go_wp2_with fail
  refine (journal_Add a.j a.d a.v _ _ (texts l) r.bytes _ H.out.jrn H.out.disk H.out.ap Hrl.out.1 (by have := Hrl.out.2; omega) (by have := Hrl.out.2; have := Hdl.out; omega) (by simp [texts]; omega)).mono ?_
  rintro e w1 ⟨v', rfl, hj1, hd1, hk1, hap1, hv1⟩
  have hA1 : AccAt w1 a.A a.j (replay l) a.s a.m := H.out.acc.kept hk1 (by rintro (e | e | e); exact H.out.Aj e; exact H.out.Ad e; exact H.out.vA e) (by rintro (e | e | e); exact H.out.mj e; exact H.out.md e; exact H.out.vm e)
    (by rintro k hk (e | e | e); exact H.out.sj (by rw [← e]; exact hk); exact H.out.sd (by rw [← e]; exact hk); exact H.out.sv k hk e)
  go_wp2_with fail
  refine (state_take a.A a.j _ a.s a.m r hr _ hA1).mono ?_
  rintro e w2 ⟨s', rfl, hA2, hk2, hs2⟩
  go_wp2
  go_ret
  have hAlt := H.out.acc.lt
  have hmlt := H.out.acc.map.lt
  have hjlt := H.out.jrn.lt
  have hdlt := H.out.disk.lt
  have hz1 := hk1.size
  have nA : ¬ v'.ownBlock = some a.A := fun e => by rcases hv1 _ e with e | e; exact H.out.vA e; omega
  have nm : ¬ v'.ownBlock = some a.m := fun e => by rcases hv1 _ e with e | e; exact H.out.vm e; omega
  have e1 : texts l ++ [r.bytes] = texts (l ++ [r]) := by simp [texts]
  have e2 : diskBytes (texts l) ++ framed r.bytes = diskBytes (texts (l ++ [r])) := by rw [← e1, diskBytes_snoc]
  rw [e1] at hj1
  rw [e2] at hd1
  have hj2 := hj1.kept hk2 (by rintro (e | e); exact H.out.Aj e.symm; exact H.out.mj e.symm) (by rintro k hk (e | e); exact nA (by rw [← e]; exact hk); exact nm (by rw [← e]; exact hk))
  have hd2 := hd1.kept hk2 (by rintro (e | e); exact H.out.Ad e.symm; exact H.out.md e.symm)
  rw [← replay_snoc] at hA2
  refine ⟨⟨a.A, a.d, a.j, a.m, s', v'⟩, rfl, ⟨hA2, hj2, hd2, hap1, H.out.Aj, H.out.Ad, H.out.mj, H.out.md, nA, nm, ?_, ?_, ?_⟩, ⟨rfl, rfl, rfl, rfl, fun k hk => ?_, hv1⟩, ?_⟩
  · intro e; rcases hs2 _ e with e | e
    · exact H.out.sj e
    · have : w1.heap.size ≤ a.j := e
      omega
  · intro e; rcases hs2 _ e with e | e
    · exact H.out.sd e
    · have : w1.heap.size ≤ a.d := e
      omega
  · intro k hk e
    have hlt := hj1.own.lt e
    rcases hs2 _ hk with h3 | h3
    · rcases hv1 _ e with h4 | h4
      · exact H.out.sv k h3 h4
      · have := H.out.acc.rd.lt h3; omega
    · omega
  · rcases hs2 _ hk with e | e
    · exact .inl e
    · exact .inr (by omega)
  · refine (hk1.mono (fun k _ hk => ?_)).then hk2 (fun k _ hk => ?_)
    · rcases hk with e | e | e
      · exact .inr (.inr (.inl e))
      · exact .inr (.inr (.inr (.inl e)))
      · exact .inr (.inr (.inr (.inr e)))
    · rcases hk with e | e
      · exact .inl e
      · exact .inr (.inl e)
end Go.Proofs.Ytlpnomejpaoeaaa
