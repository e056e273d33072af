/- append of a string onto bytes. -/
import Derived.Test.YtlpnomejpaoeaaaOwn
namespace Go.Proofs.Ytlpnomejpaoeaaa
set_option linter.unusedSimpArgs false
set_option linter.unusedVariables false
open Go.RowKit
section
variable {P : Program}
theorem run_firstCells_str (w : World) (m : Bytes) : (Builtin.firstCells 1 m.length (str m)).run P w = .ok (byteVals m).toArray w := by
  simp only [Builtin.firstCells]
  have e : (ByteArray.mk m.toArray).extract 0 m.length = ⟨m.toArray⟩ := by
    have := ByteArray.extract_zero_size (b := ⟨m.toArray⟩)
    simpa [ByteArray.size] using this
  rw [e]
  simp [byteVals, Sem.run_pure]

theorem run_append_str {t st e : TypeId} (w : World) (ty : TypeId) (T : SlT P t e 1 1) (hst : P.underlying st = some .string) (v : Value) (l m : Bytes) (hown : Own w e 1 v l.length (byteVals l))
    (h63 : l.length + m.length ≤ 1000000000) :
    ∃ v' w', (Builtin.append_ #[t, st] ty #[v, str m]).run P w = .ok v' w' ∧ Appended w w' e 1 v v' (l.length + m.length) (byteVals l ++ byteVals m) := by
  obtain ⟨i, z, hi, hz, hzs, hsize, hby⟩ := T.parts
  have ht := T.ht
  have hmax : l.length + m.length ≤ maxLen := by unfold maxLen; omega
  have hml : (byteVals m).length = m.length * 1 := by simp [byteVals]
  have hll : (byteVals l).length = l.length * 1 := by simp [byteVals]
  have hf : ∀ W : World, (Builtin.firstCells 1 m.length (.string ⟨m.toArray⟩)).run P W = .ok (byteVals m).toArray W := fun W => run_firstCells_str W m
  rcases hown.2 with ⟨rfl, h0⟩ | ⟨g, o, cap, cur, fr, rfl, hg, hfr, hnc, hcm, hcs, htake⟩
  · have hl : l = [] := List.eq_nil_of_length_eq_zero h0
    subst hl
    by_cases hm : m.length = 0
    · have : m = [] := List.eq_nil_of_length_eq_zero hm
      subst this
      refine ⟨.slice none 0 0, w, ?_, ⟨by simpa [byteVals] using Own.nil w e 1, Kp.refl _ _, fun k hk => by cases hk⟩⟩
      have hf0 := hf w
      simp only [List.length_nil] at hf0
      simp [Builtin.append_, run_underlying ht, run_underlying hst, sizeOf, typeInfo, hi, hsize, Builtin.lenOf, ByteArray.size, hf0]
    · have h63' : ¬ (9223372036854775807 < (m.length : Int)) := by simp at h63; omega
      have h48 : Builtin.nextslicecap m.length 0 * i.bytes ≤ 281474976710656 := by rw [nextslicecap_zero (by omega), hby]; simp at h63; omega
      have h48' : ¬ (281474976710656 < Builtin.nextslicecap m.length 0 * i.bytes) := by omega
      have hr : (Builtin.append_ #[t, st] ty #[.slice none 0 0, str m]).run P w = .ok (.slice (some ⟨w.heap.size, 0, none⟩) m.length (grownCap w m.length 0 e))
          (w.drew.alloc (.cells ((byteVals m).toArray ++ Builtin.zeroCells z.cells (grownCap w m.length 0 e - m.length)) e)) := by
        simp [Builtin.append_, run_underlying ht, run_underlying hst, sizeOf, typeInfo, zeroValue, hi, hz, hsize, Builtin.lenOf, ByteArray.size, hm, h63', h48', Question.forced, run_firstCells_none, hf, newRow, grownCap]
      have hgr := grown_own w e 1 0 m.length 0 z.cells [] (byteVals m) (by simp) hml hzs hmax
      simp only [Nat.zero_add, List.nil_append, Array.empty_append, List.length_nil, byteVals, List.map_nil] at hgr ⊢
      exact ⟨_, _, hr, ⟨hgr, grown_kp _ _ _, fun k hk => by cases hk; exact .inr (Nat.le_refl _)⟩⟩
  · by_cases hroom : l.length + m.length ≤ cap
    · have hfit : (o + l.length * 1) + 0 + (byteVals m).length ≤ cur.size := by rw [hml, hcs]; omega
      have hst' := run_storeCells_own (P := P) g (o + l.length * 1) e fr (byteVals m) 0 cur w hg hfr hfit (byteVals_one m)
      have hadd : (⟨g, o, none⟩ : Addr).add l.length = ⟨g, o + l.length, none⟩ := by unfold Addr.add; split <;> simp_all
      simp only [Nat.add_zero, Nat.mul_one] at hst'
      have hr : (Builtin.append_ #[t, st] ty #[.slice (some ⟨g, o, none⟩) l.length cap, str m]).run P w =
          .ok (.slice (some ⟨g, o, none⟩) (l.length + m.length) cap) (w.setRow g (cur.toList.take (o + l.length) ++ byteVals m ++ cur.toList.drop (o + l.length + (byteVals m).length)).toArray) := by
        simp [Builtin.append_, run_underlying ht, run_underlying hst, sizeOf, typeInfo, hi, hsize, Builtin.lenOf, ByteArray.size, hroom, hf, hadd, hst']
      refine ⟨_, _, hr, ⟨⟨by simp [byteVals], .inr ⟨g, o, cap, _, fr, rfl, setRow_heap w g cur _ e _ hg, ?_, hroom, hcm, ?_, ?_⟩⟩, (setRow_kp w g _).mono (fun k _ hk => by rw [hk]; rfl), fun k hk => .inl hk⟩⟩
      · rcases hfr with rfl | hfr
        · exact .inl rfl
        · right
          simp only [List.size_toArray, List.length_append, List.length_take, List.length_drop, Array.length_toList]
          omega
      · simp only [List.size_toArray, List.length_append, List.length_take, List.length_drop, Array.length_toList]
        omega
      · have e1 : (cur.toList.take (o + l.length)).drop o = byteVals l := by
          rw [← htake, List.drop_take]
          congr 1
          omega
        simp only [List.append_assoc]
        rw [List.drop_append_of_le_length (by simp only [List.length_take, Array.length_toList]; omega), e1, ← List.append_assoc]
        have : (l.length + m.length) * 1 = (byteVals l ++ byteVals m).length := by simp [byteVals]
        rw [this]
        exact List.take_left
    · have holds : ∀ j u, (byteVals l)[j]? = some u → w.cell? ((⟨g, o, none⟩ : Addr).add j) = some u := fun j u hj => by
        rcases hown.rd.2 with ⟨h, _⟩ | ⟨g', o', c', he, _, _, _, hc'⟩
        · cases h
        · cases he
          have := hc' j u hj
          unfold Addr.add
          split
          · rename_i h0; subst h0; simpa using this
          · exact this
      have hn : ¬ (l.length + m.length ≤ cap) := hroom
      have h63' : ¬ (9223372036854775807 < ((l.length : Int) + (m.length : Int))) := by omega
      have h48 : Builtin.nextslicecap (l.length + m.length) cap * i.bytes ≤ 281474976710656 := growslice_fits (by omega) (by rw [hby]; omega)
      have h48' : ¬ (281474976710656 < Builtin.nextslicecap (l.length + m.length) cap * i.bytes) := by omega
      have hfo := run_firstCells_some (P := P) w.drew 1 l.length ⟨g, o, none⟩ l.length cap (byteVals l) hll (by simpa using holds)
      have hr : (Builtin.append_ #[t, st] ty #[.slice (some ⟨g, o, none⟩) l.length cap, str m]).run P w = .ok (.slice (some ⟨w.heap.size, 0, none⟩) (l.length + m.length) (grownCap w (l.length + m.length) cap e))
          (w.drew.alloc (.cells ((byteVals l).toArray ++ (byteVals m).toArray ++ Builtin.zeroCells z.cells (grownCap w (l.length + m.length) cap e - (l.length + m.length))) e)) := by
        simp [Builtin.append_, run_underlying ht, run_underlying hst, sizeOf, typeInfo, zeroValue, hi, hz, hsize, Builtin.lenOf, ByteArray.size, hn, h63', h48', Question.forced, hf, hfo, newRow, grownCap]
        simp [← Array.append_assoc]
      exact ⟨_, _, hr, ⟨grown_own w e 1 l.length m.length cap z.cells _ _ hll hml hzs hmax, grown_kp _ _ _, fun k hk => by cases hk; exact .inr (Nat.le_refl _)⟩⟩

theorem wpList_appstr {t st e : TypeId} {w : World} {ops : Array Oper} {rest : List Oper} {o : Oper} {a : Act} {Q : Exit → Act → World → Prop} (hgd : o.guard = none) (s x : Operand)
    (ho : o.op = .call { callee := .builtin .append, args := #[s, x], argTypes := #[t, st] }) (T : SlT P t e 1 1) (hst : P.underlying st = some .string)
    (v : Value) (l m : Bytes) (hs : a.eval s = v) (hown : Own w e 1 v l.length (byteVals l)) (hx : a.eval x = str m) (h63 : l.length + m.length ≤ 1000000000)
    (h : ∀ v' w', Appended w w' e 1 v v' (l.length + m.length) (byteVals l ++ byteVals m) → wpList P ops Q rest (a.put o.dst v') w') : wpList P ops Q (o :: rest) a w := by
  refine wpList_plain hgd fun K hK => ?_
  obtain ⟨v', w', hrun, hap⟩ := run_append_str w o.type T hst v l m hown h63
  unfold Oper.wp
  simp [execOp, ho, resolve, invoke, builtin, hs, hx, hrun, Result.andThen]
  exact hK _ _ (h v' w' hap)
end
end Go.Proofs.Ytlpnomejpaoeaaa
