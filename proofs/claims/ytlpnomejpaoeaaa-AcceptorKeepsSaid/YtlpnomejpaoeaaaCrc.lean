/- Package crc: what step, Sum and Seal compute. -/
import Derived.Test.YtlpnomejpaoeaaaProg
import Derived.Test.YtlpnomejpaoeaaaOwn2
namespace Go.Proofs.Ytlpnomejpaoeaaa
set_option linter.unusedSimpArgs false
set_option linter.unusedVariables false
open Go.RowKit
set_option maxHeartbeats 400000

/-- One bit's turn of the register. -/
def crcRound (x : Int) : Int := if (bits .and .u32 x 1 == 1) = true then bits .xor .u32 (x / 2) 3988292384 else x / 2
def crcIter : Nat → Int → Int
  | 0, x => x
  | k + 1, x => crcRound (crcIter k x)
def crcStep (r c : Int) : Int := crcIter 8 (bits .xor .u32 r c)
theorem crcRound_bd (x : Int) (h0 : 0 ≤ x) (h1 : x < 4294967296) : 0 ≤ crcRound x ∧ crcRound x < 4294967296 := by
  unfold crcRound
  split
  · exact bits_u32 _ _ _
  · omega
theorem crcIter_bd (k : Nat) (x : Int) (h0 : 0 ≤ x) (h1 : x < 4294967296) : 0 ≤ crcIter k x ∧ crcIter k x < 4294967296 := by
  induction k with
  | zero => exact ⟨h0, h1⟩
  | succ k ih => exact crcRound_bd _ ih.1 ih.2
theorem crcStep_bd (r c : Int) : 0 ≤ crcStep r c ∧ crcStep r c < 4294967296 := crcIter_bd 8 _ (bits_u32 _ _ _).1 (bits_u32 _ _ _).2

theorem crc_step (r c : Int) (hc0 : 0 ≤ c) (hc1 : c < 256) (w : World) :
    Calls Try.prog 101 #[.int .u32 r, .int .u8 c] w fun e w' => e = .returned (.int .u32 (crcStep r c)) ∧ w = w' := by
  go_enter Try.func101, Try.ntmps101
  go_wp2
  go_loop [0, 9] (fun v i => ∃ k : Nat, k ≤ 8 ∧ i = .int .i64 k ∧ v = .int .u32 (crcIter k (bits .xor .u32 r c))) (fun _ i => 8 - (intOf i).toNat)
  case atStart => exact ⟨0, by omega, rfl, rfl⟩
  case round =>
    obtain ⟨k, hk, rfl, rfl⟩ := hrel
    have hb := crcIter_bd k _ (bits_u32 .xor r c).1 (bits_u32 .xor r c).2
    generalize hx : crcIter k (bits .xor .u32 r c) = x at hb ⊢
    have Hx := hid hx
    clear hx
    obtain ⟨hb0, hb1⟩ := hb
    by_cases hlt : k < 8
    · go_wp2
      · go_round
        case rel => exact ⟨k + 1, by omega, by go_num, by show _ = Value.int .u32 (crcRound (crcIter k _)); rw [Hx.out, crcRound, if_pos ‹_›]⟩
        case measure => simp [intOf]; omega
      · go_round
        case rel => exact ⟨k + 1, by omega, by go_num, by show _ = Value.int .u32 (crcRound (crcIter k _)); rw [Hx.out, crcRound, if_neg (by simp only [Bool.not_eq_true]; assumption)]⟩
        case measure => simp [intOf]; omega
    · go_wp2
      go_ret
      obtain rfl : k = 8 := by omega
      exact ⟨ret_int Hx.out.symm, rfl⟩

theorem crc_stepB (r : Int) (c : UInt8) (w : World) :
    Calls Try.prog 101 #[.int .u32 r, .int .u8 (c.toNat : Int)] w fun e w' => e = .returned (.int .u32 (crcStep r (c.toNat : Int))) ∧ w = w' :=
  crc_step r _ (by omega) (by have := c.toNat_lt; omega) w

def crcFold (s : Bytes) : Int := s.foldl (fun r c => crcStep r (c.toNat : Int)) 4294967295
/-- The sum of a text. -/
def crcSum (s : Bytes) : Int := bits .xor .u32 IntKind.u32.max (crcFold s)
theorem crcFold_snoc (s : Bytes) (k : Nat) (h : k < s.length) : crcFold (s.take (k + 1)) = crcStep (crcFold (s.take k)) ((s.getD k 0).toNat : Int) := by
  have e : s.getD k 0 = s[k] := by simp [h]
  rw [List.take_succ_eq_append_getElem h, e]
  unfold crcFold
  rw [List.foldl_append]; rfl

theorem crc_Sum (s : Bytes) (hs : s.length ≤ 1048576) (b : Nat) (w : World) (hc : w.cell? ⟨b, 0, none⟩ = some (str s)) :
    Calls Try.prog 94 #[.slice (some ⟨b, 0, none⟩) 1 1] w fun e w' => e = .returned (.int .u32 (crcSum s)) ∧ w = w' := by
  go_enter Try.func94, Try.ntmps94
  go_wp2
  refine wp_loop_rounds 2 ?_
  rw [rounds_succ]
  go_wp2
  go_loop [3, 15] (fun v i => ∃ k : Nat, k ≤ s.length ∧ i = .int .i64 k ∧ v = .int .u32 (crcFold (s.take k))) (fun _ i => s.length - (intOf i).toNat)
  case atStart => exact ⟨0, by omega, rfl, rfl⟩
  case round =>
    obtain ⟨k, hk, rfl, rfl⟩ := hrel
    by_cases hlt : k < s.length
    · have Hs := hid (crcFold_snoc s k hlt)
      go_wp2_with fail
      refine (crc_stepB _ _ _).mono ?_
      rintro e w' ⟨rfl, rfl⟩
      go_wp2
      go_round
      case rel => exact ⟨k + 1, by omega, by go_num, by rw [Hs.out, show s.getD k 0 = s[k] by simp [hlt]]; rfl⟩
      case measure => simp [intOf]; omega
    · go_wp2
      rw [rounds_succ]
      go_wp2
      go_ret
      obtain rfl : k = s.length := by omega
      rw [List.take_length]
      exact ⟨rfl, rfl⟩

/-- The four bytes of a sum, the lowest ahead. -/
def crcByte (n : Int) (k : Nat) : UInt8 := UInt8.ofNat (n / 2 ^ (8 * k)).toNat
def crcTail (n : Int) : Nat → Bytes
  | 0 => []
  | k + 1 => crcTail n k ++ [crcByte n k]
theorem crcByte_val (n : Int) (k : Nat) (h : 0 ≤ n) : ((crcByte n k).toNat : Int) = n / 2 ^ (8 * k) % 256 := by
  have h1 : 0 ≤ n / 2 ^ (8 * k) := Int.ediv_nonneg h (Int.le_of_lt (Int.pow_pos (by decide)))
  unfold crcByte
  generalize n / 2 ^ (8 * k) = x at h1 ⊢
  simp
  omega
/-- A sealed text. -/
def crcSeal (s : Bytes) : Bytes := s ++ crcTail (crcSum s) 4
theorem crcSeal_length (s : Bytes) : (crcSeal s).length = s.length + 4 := by simp [crcSeal, crcTail]

theorem sl_bytes : SlT Try.prog 128 5 1 1 := ⟨Try.underlying128, by kernel_rfl, by decide⟩
section
variable {w : World} {ops : Array Oper} {rest : List Oper} {o : Oper} {a : Act} {Q : Exit → Act → World → Prop}
/-- The arms for bytes and strings at this program's types. -/
theorem w_strbytes (hgd : o.guard = none) (x : Operand) (ho : o.op = .convert 9 128 x) (l : Bytes) (hx : a.eval x = str l) (hl : l.length ≤ maxLen)
    (h : ∀ v' w', Own w' 5 1 v' l.length (byteVals l) → Below w.heap.size w w' → Fresh w.heap.size v' → wpList Try.prog ops Q rest (a.put o.dst v') w') : wpList Try.prog ops Q (o :: rest) a w :=
  wpList_strbytes hgd x ho Try.underlying9 Try.underlying128 Try.underlying5 l hx hl h
theorem w_bytesstr (hgd : o.guard = none) (x : Operand) (ho : o.op = .convert 128 9 x) (v : Value) (n : Nat) (l : Bytes) (hx : a.eval x = v) (hrd : Rd w 1 v n (byteVals l))
    (h : wpList Try.prog ops Q rest (a.put o.dst (str l)) w) : wpList Try.prog ops Q (o :: rest) a w :=
  wpList_bytesstr hgd x ho Try.underlying128 Try.underlying9 Try.underlying5 v n l hx hrd h
theorem w_appstr (hgd : o.guard = none) (s x : Operand) (ho : o.op = .call { callee := .builtin .append, args := #[s, x], argTypes := #[128, 9] })
    (v : Value) (l m : Bytes) (hs : a.eval s = v) (hown : Own w 5 1 v l.length (byteVals l)) (hx : a.eval x = str m) (h63 : l.length + m.length ≤ 1000000000)
    (h : ∀ v' w', Appended w w' 5 1 v v' (l.length + m.length) (byteVals l ++ byteVals m) → wpList Try.prog ops Q rest (a.put o.dst v') w') : wpList Try.prog ops Q (o :: rest) a w :=
  wpList_appstr hgd s x ho sl_bytes Try.underlying9 v l m hs hown hx h63 h
theorem w_mkbytes (hgd : o.guard = none) (l c : Operand) (ho : o.op = .makeSlice 128 l c) (n : Nat) (hl : a.eval l = .int .i64 n) (hc : a.eval c = .int .i64 n) (h48 : n ≤ 1048576)
    (h : wpList Try.prog ops Q rest (a.put o.dst (.slice (some ⟨w.heap.size, 0, none⟩) n n)) (w.alloc (.cells (List.replicate n (.int .u8 0)).toArray 5))) : wpList Try.prog ops Q (o :: rest) a w :=
  wpList_make1 hgd l c ho sl_bytes (.int .u8 0) (by kernel_rfl) rfl n hl hc (by omega) (by unfold maxLen; omega) h
end

theorem crc_Seal (s : Bytes) (hs : s.length ≤ 1000000) (w : World) :
    Calls Try.prog 77 #[str s] w fun e w' => e = .returned (str (crcSeal s)) ∧ Below w.heap.size w w' := by
  go_enter Try.func77, Try.ntmps77
  go_wp2_with fail
  refine (crc_Sum s (by omega) _ _ ?_).mono ?_
  · simp
  rintro e w' ⟨rfl, rfl⟩
  go_wp2_with (refine w_strbytes rfl _ rfl s rfl (by unfold maxLen; omega) ?_; intro v1 w1 hown1 hb1 hf1)
  generalize hn : crcSum s = n
  have hn0 : 0 ≤ n ∧ n < 4294967296 := by rw [← hn]; exact bits_u32 _ _ _
  have Hn := hid hn
  clear hn
  obtain ⟨hn1, hn2⟩ := hn0
  have hB : w.heap.size ≤ w1.heap.size := by have := hb1.size; simp at this; omega
  have hb0 : Below w.heap.size w w1 := ((below_alloc w _).trans (hb1.mono (by simp)))
  have hf0 : Fresh w.heap.size v1 := fun k hk => by have := hf1 k hk; simp at this; omega
  clear hb1 hf1
  go_loopw [4, 11] (fun v i wr => ∃ k : Nat, k ≤ 4 ∧ i = .int .i64 k ∧ Own wr 5 1 v (s.length + k) (byteVals (s ++ crcTail n k)) ∧ Fresh w.heap.size v ∧ Below w.heap.size w wr) (fun _ i _ => 4 - (intOf i).toNat)
  case atStart => exact ⟨0, by omega, rfl, by simpa [crcTail] using hown1, hf0, hb0⟩
  case round =>
    obtain ⟨k, hk, rfl, hown, hf, hb⟩ := hrel
    clear hown1 hB hb0 hf0
    by_cases hlt : k < 4
    · have hv := crcByte_val n k hn1
      have hrd : Rd (wr.alloc (.cells #[Value.int .u8 (n / 2 ^ (8 * k) % 256)] 5)) 1 (.slice (some ⟨wr.heap.size, 0, none⟩) 1 1) 1 (byteVals [crcByte n k]) := by
        have := Rd.lit wr #[Value.int .u8 (n / 2 ^ (8 * k) % 256)] 5 1 1 _ rfl rfl (by decide)
        rw [← hv] at this ⊢
        exact this
      have Hrd := hid hrd
      clear hv hrd
      go_wp2_with (at_builtin; refine wpList_app rfl _ _ rfl sl_bytes _ _ _ rfl (hown.below (below_alloc _ _)) _ 1 _ rfl Hrd.out (byteVals_one _) (by unfold maxLen; omega) (by omega) ?_; intro v2 w2 hap)
      have hB : w.heap.size ≤ wr.heap.size := hb.size
      go_roundw
      case rel => exact ⟨k + 1, by omega, by go_num, by
        have := hap.own
        rw [← byteVals_append, List.append_assoc] at this
        exact this, hap.fresh hf (by simp; omega), (hb.alloc hB _).trans (hap.below hf (by simp; omega))⟩
      case measure => simp [intOf]; omega
    · obtain rfl : k = 4 := by omega
      go_wp2_with (refine w_bytesstr rfl _ rfl _ _ _ rfl hown.rd ?_)
      go_ret
      exact ⟨ret_str (by rw [crcSeal, Hn.out]), hb⟩
end Go.Proofs.Ytlpnomejpaoeaaa
