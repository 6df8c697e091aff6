/- platenref24.Lines. -/
import Derived.Test.YtakolehlaejhfaaEdLines
import Derived.Test.YtakolehlaejhfaaEdEnd
namespace Go.Proofs.Ytakolehlaejhfaa
open Go.RowKit
set_option maxRecDepth 100000
set_option linter.unusedVariables false
set_option linter.unusedSimpArgs false

set_option maxHeartbeats 4000000 in
theorem refLines_any (l : Ln) (w : World) (hs : l.length ≤ 1048576) : Calls Try.prog 20 #[.string (strOf l)] w (TxtOut w (linesB l)) := by
  obtain ⟨i0, z0, hT1, hi0, hz0, hz1, hzb, hz4, hz5⟩ := strE'
  have HE := Lib.hid (And.intro hi0 (And.intro hz0 (And.intro hz1 (And.intro hzb hz4))))
  clear hi0 hz0 hz1 hzb hz4 hT1
  have hsz : (strOf l).size = l.length := strOf_size l
  go_enter Try.func20, Try.ntmps20
  go_wp2_with fail
  go_loopw [3, 4, 5] (fun o f i wr => ∃ (j q : Nat) (L : List Ln) (A : Option Addr) (c : Nat), q ≤ j ∧ j ≤ l.length ∧ f = .int .i64 (q : Int) ∧ i = .int .i64 (j : Int) ∧ o = .slice A L.length c ∧ wr.ownsRow w.heap.size 9 1 (.slice A L.length c) L.length (L.map strVal) ∧ L ++ linesB (l.drop q) = linesB l ∧ (∀ k, q ≤ k → k < j → l[k]? ≠ some 10) ∧ L.length ≤ q ∧ Below w.heap.size w wr) (fun _ _ i _ => l.length - (intOf i).toNat)
  case atStart => exact ⟨0, 0, [], none, 0, Nat.le_refl _, Nat.zero_le _, rfl, rfl, rfl, World.ownsRow_nil _ _ _ _, by simp, by omega, Nat.zero_le _, Below.refl _ _⟩
  case round =>
    obtain ⟨j, q, L, A, c, hqj, hj, rfl, rfl, rfl, hown, hL, hno, hLq, hbe⟩ := hrel
    have HO := Lib.hid hown
    have HL := Lib.hid hL
    have HNO := Lib.hid hno
    have HBE := Lib.hid hbe
    clear hown hL hno hbe
    by_cases hlt : j < l.length
    · have hji : (j : Int) < (l.length : Int) := by omega
      have hgl : ∀ (p : j < (strOf l).size), (strOf l)[j]'p = l[j]'hlt := fun p => by
        rfl
      have hx := List.getElem?_eq_getElem hlt
      have HSL : ∀ W, (Instr.slice 9 (.string (strOf l)) (some (.int .i64 (q : Int))) (some (.int .i64 ((j : Int) + 1))) none).run Try.prog W = .ok (.string (strOf ((l.drop q).take (j + 1 - q)))) W := by
        intro W
        have h := run_slice_string (P := Try.prog) (w := W) 9 (strOf l) .i64 .i64 (q : Int) ((j : Int) + 1) Try.underlying9 (by omega) (by omega) (by omega)
        rw [h]
        have e1 : ((q : Int)).toNat = q := by omega
        have e2 : ((j : Int) + 1).toNat = j + 1 := by omega
        rw [e1, e2, strOf_extract]
      have hcut : l.drop q = (l.drop q).take (j - q) ++ l[j]'hlt :: l.drop (j + 1) := by
        have h1 := List.take_append_drop (j - q) (l.drop q)
        rw [List.drop_drop, show q + (j - q) = j by omega, List.drop_eq_getElem_cons hlt] at h1
        exact h1.symm
      have hfree : ∀ c0 ∈ (l.drop q).take (j - q), c0 ≠ 10 := by
        intro c0 hc0 e
        obtain ⟨k, hk, rfl⟩ := List.mem_iff_getElem.1 hc0
        rw [List.length_take, List.length_drop] at hk
        refine HNO.out (q + k) (by omega) (by omega) ?_
        rw [List.getElem_take, List.getElem_drop] at e
        rw [List.getElem?_eq_getElem (by omega), e]
      have hpl : ((l.drop q).take (j - q)).length = j - q := by rw [List.length_take, List.length_drop]; omega
      have htk : (l.drop q).take (j + 1 - q) = (l.drop q).take (j - q) ++ [l[j]'hlt] := by
        rw [show j + 1 - q = (j - q) + 1 by omega, List.take_add_one, List.getElem?_drop, show q + (j - q) = j by omega, List.getElem?_eq_getElem hlt]
        rfl
      generalize l[j]'hlt = ch at *
      by_cases h10 : ch = 10
      · subst h10
        have hln : linesB (l.drop q) = ((l.drop q).take (j + 1 - q)) :: linesB (l.drop (j + 1)) := by
          rw [htk]
          conv => lhs; rw [hcut]
          exact linesB_nl _ _ hfree
        have HLN := Lib.hid hln
        have HSL' := Lib.hid HSL
        have HX := Lib.hid hx
        clear hcut hfree hpl htk hln hx
        have hlj : L.length + 1 ≤ 2000000 := by omega
        go_wp2_with (at_builtin; refine wpList_append_own _ rfl _ _ 40 rfl w.heap.size 9 i0 z0 1 16 Try.underlying40 HE.out.1 HE.out.2.1 HE.out.2.2.1 HE.out.2.2.2.1 HE.out.2.2.2.2 (by omega) (.slice A L.length c) L.length (L.map strVal) rfl (HO.out.alloc _) ⟨wr.heap.size, 0, none⟩ 1 1 [strVal ((l.drop q).take (j + 1 - q))] rfl rfl (World.news_of_block (cs := #[strVal ((l.drop q).take (j + 1 - q))]) (t := 9) (fr := (0, 0)) (heap_alloc_new wr _)) (by simp [Value.oneCell', strVal]) (by unfold maxLen; omega) (by omega) (by have := HBE.out.size; simp; omega) ?_; intro v' w2 hown2 hgrow _; have HO2 := Lib.hid hown2; have HB2 := Lib.hid ((HBE.out.alloc HBE.out.size _).grown hgrow (by have := HBE.out.size; simp; omega) (fun k hk => (HO.out.lt k hk).1)); clear hown2 hgrow)
        obtain ⟨g, cap, rfl⟩ := ownsRow_succ HO2.out
        go_roundw
        case rel =>
          refine ⟨j + 1, j + 1, L ++ [(l.drop q).take (j + 1 - q)], some ⟨g, 0, none⟩, cap, Nat.le_refl _, by omega, by go_num, by go_num, by simp, by have := HO2.out; simpa using this, ?_, by intro k h1 h2; omega, by simp; omega, HB2.out⟩
          rw [List.append_assoc, ← HL.out, HLN.out]
          rfl
        case measure => simp [intOf]; omega
      · have hn10 : ((ch.toNat : Int) == 10) = false := by
          rw [beq_eq_false_iff_ne]
          intro e
          exact h10 (UInt8.toNat_inj.1 (by have e10 : (10 : UInt8).toNat = 10 := rfl; omega))
        have HX := Lib.hid hx
        have HN := Lib.hid h10
        clear hcut hfree hpl htk hx h10 HSL
        go_wp2_with fail
        go_roundw
        case rel =>
          refine ⟨j + 1, q, L, A, c, by omega, by omega, rfl, by go_num, rfl, HO.out, HL.out, ?_, hLq, HBE.out⟩
          intro k h1 h2 h3
          by_cases hkj : k = j
          · subst hkj
            rw [HX.out] at h3
            exact HN.out (Option.some.inj h3)
          · exact HNO.out k h1 (by omega) h3
        case measure => simp [intOf]; omega
    · have hjl : ¬ ((j : Int) < (l.length : Int)) := by omega
      obtain rfl : j = l.length := by omega
      by_cases hq : q < l.length
      · have hqi : (q : Int) < (l.length : Int) := by omega
        have HSL : ∀ W, (Instr.slice 9 (.string (strOf l)) (some (.int .i64 (q : Int))) none none).run Try.prog W = .ok (.string (strOf (l.drop q))) W := by
          intro W
          have h := run_slice_string_from_if (P := Try.prog) (w := W) 9 (strOf l) .i64 (q : Int) Try.underlying9
          rw [h, if_pos (by omega)]
          have e1 : ((q : Int)).toNat = q := by omega
          rw [e1, strOf_extract, hsz, List.take_of_length_le (by rw [List.length_drop]; omega)]
        have hln : linesB (l.drop q) = [l.drop q] := by
          refine linesB_end _ ?_ (by intro e; have := congrArg List.length e; simp at this; omega)
          intro c0 hc0 e
          obtain ⟨k, hk, rfl⟩ := List.mem_iff_getElem.1 hc0
          rw [List.length_drop] at hk
          refine HNO.out (q + k) (by omega) (by omega) ?_
          rw [List.getElem_drop] at e
          rw [List.getElem?_eq_getElem (by omega), e]
        have HLN := Lib.hid hln
        clear hln
        go_wp2_with (at_builtin; refine wpList_append_own _ rfl _ _ 40 rfl w.heap.size 9 i0 z0 1 16 Try.underlying40 HE.out.1 HE.out.2.1 HE.out.2.2.1 HE.out.2.2.2.1 HE.out.2.2.2.2 (by omega) (.slice A L.length c) L.length (L.map strVal) rfl (HO.out.alloc _) ⟨wr.heap.size, 0, none⟩ 1 1 [strVal (l.drop q)] rfl rfl (World.news_of_block (cs := #[strVal (l.drop q)]) (t := 9) (fr := (0, 0)) (heap_alloc_new wr _)) (by simp [Value.oneCell', strVal]) (by unfold maxLen; omega) (by omega) (by have := HBE.out.size; simp; omega) ?_; intro v' w2 hown2 hgrow _; have HO2 := Lib.hid hown2; have HB2 := Lib.hid ((HBE.out.alloc HBE.out.size _).grown hgrow (by have := HBE.out.size; simp; omega) (fun k hk => (HO.out.lt k hk).1)); clear hown2 hgrow)
        obtain ⟨g, cap, rfl⟩ := ownsRow_succ HO2.out
        go_ret
        have ho : w2.ownsRow w.heap.size 9 1 (.slice (some ⟨g, 0, none⟩) (L.length + 1) cap) (L.length + 1) ((L ++ [l.drop q]).map strVal) := by have := HO2.out; simpa using this
        obtain ⟨h1, h2, h3⟩ := TxtAt.of_own ho
        have he : L ++ [l.drop q] = linesB l := by rw [← HLN.out]; exact HL.out
        rw [he] at h1 h2 h3
        exact ⟨some ⟨g, 0, none⟩, cap, by rw [h2]; rfl, h3, h1, HB2.out⟩
      · go_wp2_with fail
        go_ret
        obtain ⟨h1, h2, h3⟩ := TxtAt.of_own HO.out
        have he : L = linesB l := by
          have := HL.out
          rw [List.drop_eq_nil_of_le (by omega), show linesB [] = [] by simp [linesB], List.append_nil] at this
          exact this
        rw [he] at h1 h2 h3
        exact ⟨A, c, by rw [← he]; rfl, h3, h1, HBE.out⟩
end Go.Proofs.Ytakolehlaejhfaa
