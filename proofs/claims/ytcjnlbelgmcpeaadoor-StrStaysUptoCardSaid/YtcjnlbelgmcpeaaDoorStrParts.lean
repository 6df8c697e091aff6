/- The walk of package str's parts: it tells partsB. -/
import Derived.Test.YtcjnlbelgmcpeaaDoorStrEscape
import Derived.Test.YtcjnlbelgmcpeaaDoorOwn
namespace Go.Proofs.YtcjnlbelgmcpeaaDoor
open Go.RowKit
set_option maxRecDepth 100000
set_option linter.unusedVariables false
set_option linter.unusedSimpArgs false

def ptCells (p : Pt) : List Value := [.int .i64 p.fr, .int .i64 p.to, .bool p.esc, .int .i64 p.val]
def rowCells (ps : List Pt) : List Value := ps.flatMap ptCells
theorem rowCells_len (ps : List Pt) : (rowCells ps).length = ps.length * 4 := by
  induction ps with
  | nil => rfl
  | cons p ps ih => simp only [rowCells, List.flatMap_cons, List.length_append, List.length_cons] at ih ⊢; rw [ih]; simp [ptCells]; omega
theorem rowCells_app (ps : List Pt) (p : Pt) : rowCells (ps ++ [p]) = rowCells ps ++ ptCells p := by simp [rowCells]
theorem infoPt : (Tryd.prog.info? 53).map (fun i => (i.zero, i.size, i.bytes)) = some (some (.agg #[.int .i64 0, .int .i64 0, .bool false, .int .i64 0]), 4, 32) := by kernel_rfl

/-- What parts hands out. -/
def PartsOut (s : ByteArray) (w : World) (e : Ending) (w' : World) : Prop :=
  match partsB s with
  | .ok ps => ∃ v, e = .returned (.tuple #[v, .int .i64 0, .bool true]) ∧ w'.ownsRow w.heap.size 53 4 v ps.length (rowCells ps) ∧ ps.length ≤ s.size
  | .error p => e = .returned (.tuple #[.slice none 0 0, .int .i64 (p : Int), .bool false])

theorem ptE : ElemOf Tryd.prog 46 53 4 32 := .mk' (.agg #[.int .i64 0, .int .i64 0, .bool false, .int .i64 0]) Tryd.underlying46 infoPt rfl (by decide)

theorem pieceB_bad (s : ByteArray) (i : Nat) (h : lenB s i = 0 ∨ (Utf8.decode s i).1 = 10 ∨ (Utf8.decode s i).1 = 13) : pieceB s i = ⟨0, i, false⟩ := by
  unfold pieceB
  simp only
  rw [if_pos h]
theorem pieceB_esc (s : ByteArray) (i : Nat) (hl : lenB s i ≠ 0) (h : (Utf8.decode s i).1 = 92) : pieceB s i = escB s i := by
  unfold pieceB
  simp only
  rw [if_neg (by omega), if_pos h]
theorem pieceB_plain (s : ByteArray) (i : Nat) (hl : lenB s i ≠ 0) (h1 : (Utf8.decode s i).1 ≠ 10) (h2 : (Utf8.decode s i).1 ≠ 13) (h3 : (Utf8.decode s i).1 ≠ 92) : pieceB s i = ⟨(Utf8.decode s i).1, i + (Utf8.decode s i).2, true⟩ := by
  unfold pieceB
  simp only
  rw [if_neg (by omega), if_neg h3]
theorem ptCells_one (q : Pt) : ∀ u ∈ ptCells q, u.oneCell' = true := by
  intro u hu
  simp only [ptCells, List.mem_cons, List.mem_nil_iff, or_false] at hu
  rcases hu with rfl | rfl | rfl | rfl <;> rfl
theorem map_snoc {acc : List Pt} {p : Pt} {x y : Except Nat (List Pt)} (h : x.map (acc ++ ·) = y) (x' : Except Nat (List Pt)) (hx : x = x'.map (p :: ·)) : x'.map ((acc ++ [p]) ++ ·) = y := by
  rw [← h, hx]
  cases x' <;> simp [Except.map]


theorem partsOut_err {s : ByteArray} {w w' : World} {e : Ending} {p : Nat} (h : partsB s = .error p) (he : e = .returned (.tuple #[.slice none 0 0, .int .i64 (p : Int), .bool false])) : PartsOut s w e w' := by
  unfold PartsOut
  rw [h]
  exact he
theorem partsOut_ok {s : ByteArray} {w w' : World} {e : Ending} {ps : List Pt} {v : Value} (h : partsB s = .ok ps) (he : e = .returned (.tuple #[v, .int .i64 0, .bool true])) (ho : w'.ownsRow w.heap.size 53 4 v ps.length (rowCells ps)) (hl : ps.length ≤ s.size) : PartsOut s w e w' := by
  unfold PartsOut
  rw [h]
  exact ⟨v, he, ho, hl⟩

set_option maxHeartbeats 8000000 in
theorem parts_any (s : ByteArray) (w : World) (hs : s.size ≤ 4194304) (hT : Tabs w) :
    Calls Tryd.prog 20 #[.string s] w fun e w' => PartsOut s w e w' ∧ Below w.heap.size w w' := by
  have HT := Lib.hid hT
  clear hT
  by_cases h0 : s.size = 0
  · have he : s = ⟨#[]⟩ := by
      apply ByteArray.ext
      exact Array.eq_empty_of_size_eq_zero h0
    have HP : Hid (partsB s = .error 0) := Lib.hid (by unfold partsB; rw [if_pos (Or.inl h0)])
    have HPO : ∀ e w', PartsOut s w e w' = (e = .returned (.tuple #[.slice none 0 0, .int .i64 0, .bool false])) := fun e w' => by unfold PartsOut; rw [HP.out]; rfl
    simp only [HPO]
    subst he
    clear HPO HP h0
    go_enter Tryd.func20, Tryd.ntmps20
    go_wp2_with fail
    go_step3
    go_wp2_with fail
    simp (config := { zetaDelta := true }) only [Exit.noGoto_ret]
    go_ret3
    exact ⟨rfl, Below.refl _ w⟩
  have h1 : 0 < s.size := by omega
  have hn1 : s.toList ≠ [] := by
    intro h
    have e : s.data.toList = [] := by rw [← ByteArray.toList_eq s]; exact h
    have h2 := size_list s
    rw [e] at h2
    exact h0 h2
  have hn2 : s.toList.isEmpty = false := by
    cases h : s.toList with
    | nil => exact absurd h hn1
    | cons a l => rfl
  by_cases hq : (s[0]'h1).toNat = 39 ∨ (s[0]'h1).toNat = 34
  · have HPB : Hid ((parRest s 1).map (([] : List Pt) ++ ·) = partsB s) := Lib.hid (by
      unfold partsB
      have hb := byt_eq s 0 h1
      rw [if_neg (by omega)]
      cases parRest s 1 <;> rfl)
    obtain ⟨Q, hQ⟩ : ∃ Q : Nat, (s[0]'h1).toNat = Q := ⟨_, rfl⟩
    have HQ0 := Lib.hid hQ
    clear hQ
    go_enter Tryd.func20, Tryd.ntmps20
    go_wp2_with fail
    go_step3
    rcases hq with hq | hq
    all_goals
      first
        | have hq1 : ((s[0]'h1).toNat : Int) = 39 := by omega
        | have hq1 : ((s[0]'h1).toNat : Int) = 34 := by omega
      go_wp2_with fail
      go_step3
      go_wp2_with fail
      clear hq hq1
      go_loopw [5, 6] (fun out a wr => ∃ (i : Nat) (acc : List Pt), i ≤ s.size ∧ 1 ≤ i ∧ a = .int .i64 (i : Int) ∧ acc.length + 1 ≤ i ∧ wr.ownsRow w.heap.size 53 4 out acc.length (rowCells acc) ∧ Below w.heap.size w wr ∧ (parRest s i).map (acc ++ ·) = partsB s) (fun _ a _ => s.size - (intOf a).toNat)
      case atStart => exact ⟨1, [], by omega, Nat.le_refl _, rfl, by simp, World.ownsRow_nil _ _ _ _, Below.refl _ w, HPB.out⟩
      case round =>
        have hq1 : ((s[0]'h1).toNat : Int) = (Q : Int) := by have := HQ0.out; omega
        obtain ⟨i, acc, hi, hi1, rfl, hal, hown, hbw, hrest⟩ := hrel
        have HO := Lib.hid hown
        have HR := Lib.hid hrest
        clear hown hrest
        by_cases hin : i < s.size
        · have HD := Lib.hid (decodeRune_rest s i hin wr (HT.out.below hbw))
          have hbd1 := decode_pos s i
          have hbd2 := decode_in s i hin
          have hbd3 : (Utf8.decode s i).1 ≤ 1114111 := by
            have := decode_valid s i
            unfold Utf8.valid at this
            simp at this
            omega
          generalize hr : (Utf8.decode s i).1 = r at *
          generalize hn : (Utf8.decode s i).2 = n at *
          have HRN := Lib.hid (And.intro hr hn)
          clear hr hn
          by_cases hqq : (s[i]'hin).toNat = Q
          · have hq2 : ((s[i]'hin).toNat : Int) = (Q : Int) := by omega
            have HQ := Lib.hid (parRest_quote s i hin (by rw [← byt_eq s i hin, ← byt_eq s 0 h1]; omega))
            clear hqq
            by_cases hend : i + 1 = s.size
            · have HPO : Hid (partsB s = .ok acc) := Lib.hid (by rw [← HR.out, HQ.out, if_pos hend]; simp [Except.map])
              have he1 : ((i : Int) != (s.size : Int) - 1) = false := by rw [bne_eq_false_iff_eq]; omega
              go_wp2_with (go_at_call 23; refine HD.out.mono ?_; rintro e w2 ⟨rfl, hb2⟩)
              have hg := (hbw.call hb2).size
              go_quiet (fail)
              go_wp2_with fail
              simp (config := { zetaDelta := true }) only [Exit.noGoto_ret, Exit.inBlock, Exit.then]
              go_ret3
              exact ⟨partsOut_ok HPO.out rfl (own_below HO.out (below_drew (hb2.alloc hb2.size _) _)) (by omega), below_drew ((hbw.call hb2).alloc hg _) _⟩
            · have HPO : Hid (partsB s = .error (i + 1)) := Lib.hid (by rw [← HR.out, HQ.out, if_neg hend]; rfl)
              have he1 : ((i : Int) != (s.size : Int) - 1) = true := by rw [bne_iff_ne]; omega
              have he2 : min ((i : Int) + 1) (s.size : Int) = (i : Int) + 1 := by omega
              go_wp2_with (go_at_call 23; refine HD.out.mono ?_; rintro e w2 ⟨rfl, hb2⟩)
              have hg := (hbw.call hb2).size
              go_quiet (fail)
              go_wp2_with fail
              simp (config := { zetaDelta := true }) only [Exit.noGoto_ret, Exit.inBlock, Exit.then]
              go_ret3
              exact ⟨partsOut_err HPO.out rfl, below_drew ((hbw.call hb2).alloc hg _) _⟩
          · have hq2 : (((s[i]'hin).toNat : Int) == (Q : Int)) = false := by rw [beq_eq_false_iff_ne]; omega
            have hqn : byt s i ≠ byt s 0 := by rw [← byt_eq s i hin, ← byt_eq s 0 h1]; omega
            have HQN := Lib.hid hqn
            clear hqn hqq
            by_cases hl : lenB s i = 0
            · have HP := pieceB_bad s i (Or.inl hl)
              have HPO : Hid (partsB s = .error i) := Lib.hid (by rw [← HR.out, parRest_bad s i hin HQN.out (by rw [HP]), HP]; rfl)
              obtain ⟨rfl, rfl⟩ : r = 65533 ∧ n = 1 := by
                have := (bad_iff s i).1 hl
                rw [HRN.out.1, HRN.out.2] at this
                exact this
              clear hl HP
              go_wp2_with (go_at_call 23; refine HD.out.mono ?_; rintro e w2 ⟨rfl, hb2⟩)
              have hg := (hbw.call hb2).size
              go_quiet (fail)
              go_wp2_with fail
              simp (config := { zetaDelta := true }) only [Exit.noGoto_ret, Exit.inBlock, Exit.then]
              go_ret3
              exact ⟨partsOut_err HPO.out rfl, below_drew ((hbw.call hb2).alloc hg _) _⟩
            · have hbad : ¬ (r = 65533 ∧ n = 1) := fun h => hl ((bad_iff s i).2 (by rw [HRN.out.1, HRN.out.2]; exact h))
              have HL := Lib.hid hl
              clear hl
              by_cases hnl : r = 10 ∨ r = 13
              · have HP := pieceB_bad s i (Or.inr (by rw [HRN.out.1]; exact hnl))
                have HPO : Hid (partsB s = .error i) := Lib.hid (by rw [← HR.out, parRest_bad s i hin HQN.out (by rw [HP]), HP]; rfl)
                clear HP hbad
                rcases hnl with rfl | rfl
                all_goals
                  go_wp2_with (go_at_call 23; refine HD.out.mono ?_; rintro e w2 ⟨rfl, hb2⟩)
                  have hg := (hbw.call hb2).size
                  go_quiet (fail)
                  go_wp2_with fail
                  simp (config := { zetaDelta := true }) only [Exit.noGoto_ret, Exit.inBlock, Exit.then]
                  go_ret3
                  exact ⟨partsOut_err HPO.out rfl, below_drew ((hbw.call hb2).alloc hg _) _⟩
              · by_cases hesc : r = 92
                · subst hesc
                  have HP := Lib.hid (pieceB_esc s i HL.out HRN.out.1)
                  have HE := Lib.hid (fun W (hW : Tabs W) => escape_any s i W (by omega) hin hW)
                  have HTO := Lib.hid (escB_to s i hin)
                  have HB := Lib.hid (parRest_bad s i hin HQN.out)
                  have HS := Lib.hid (parRest_step s i hin HQN.out)
                  rw [HP.out] at HB HS
                  have hz : byt s i = 92 := by
                    have := (decode_small s i (by rw [HRN.out.1]; decide)).2
                    rw [this, HRN.out.1]
                  have hz2 : (byt s i == 92) = true := by rw [hz]; rfl
                  rw [hz2] at HS
                  generalize escB s i = q at *
                  obtain ⟨qv, qt, qf⟩ := q
                  clear HP hz hz2 hnl hbad
                  cases qf
                  · have HPO : Hid (partsB s = .error qt) := Lib.hid (by rw [← HR.out, HB.out rfl]; rfl)
                    clear HB HS
                    go_wp2_with (go_at_call 23; refine HD.out.mono ?_; rintro e w2 ⟨rfl, hb2⟩)
                    have hg := (hbw.call hb2).size
                    go_quiet (fail)
                    go_wp2_with (first | (
                      go_at_call 24
                      refine Calls.mono (HE.out _ (HT.out.below ((below_drew ((hbw.call hb2).alloc hg _) _).setCell (by simpa using hg) _))) ?_
                      rintro e w3 ⟨rfl, hb3⟩
                      have hp3 := ((((Blk.new w2 [_, _, _, _] _).drew nq).set 2 (.bool true))).below hb3
                      have hbw3 := ((below_drew ((hbw.call hb2).alloc hg _) _).setCell (p := ⟨w2.heap.size, 2, none⟩) (by simpa using hg) _).call hb3
                      have k0 := hp3.cell 0
                      have k1 := hp3.cell 1
                      have k2 := hp3.cell 2
                      have k3 := hp3.cell 3
                      have z1 := hp3.frozen 1
                      have z3 := hp3.frozen 3
                      simp at k0 k1 k2 k3
                      simp only [endG]))
                    go_quiet (fail)
                    go_wp2_with fail
                    simp (config := { zetaDelta := true }) only [Exit.noGoto_ret, Exit.inBlock, Exit.then]
                    go_ret3
                    refine ⟨?_, ?_⟩
                    · exact partsOut_err HPO.out rfl
                    · exact below_drew ((hbw3.setCell (p := ⟨w2.heap.size, 3, none⟩) hg _).setCell (p := ⟨w2.heap.size, 1, none⟩) hg _) _
                  · have HS2 := Lib.hid (HS.out rfl)
                    clear HB HS
                    go_wp2_with (go_at_call 23; refine HD.out.mono ?_; rintro e w2 ⟨rfl, hb2⟩)
                    have hg := (hbw.call hb2).size
                    go_quiet (fail)
                    go_wp2_with (first | (
                      go_at_call 24
                      refine Calls.mono (HE.out _ (HT.out.below ((below_drew ((hbw.call hb2).alloc hg _) _).setCell (by simpa using hg) _))) ?_
                      rintro e w3 ⟨rfl, hb3⟩
                      have hp3 := ((((Blk.new w2 [_, _, _, _] _).drew nq).set 2 (.bool true))).below hb3
                      have hbw3 := ((below_drew ((hbw.call hb2).alloc hg _) _).setCell (p := ⟨w2.heap.size, 2, none⟩) (by simpa using hg) _).call hb3
                      have hbr3 := ((below_drew (hb2.alloc hb2.size _) nq).setCell (p := ⟨w2.heap.size, 2, none⟩) (by simpa using hb2.size) _).call hb3
                      have k0 := hp3.cell 0
                      have k1 := hp3.cell 1
                      have k2 := hp3.cell 2
                      have k3 := hp3.cell 3
                      have z1 := hp3.frozen 1
                      have z3 := hp3.frozen 3
                      simp at k0 k1 k2 k3
                      simp only [endG]) | (
                      at_builtin
                      have hs3 := ((hbr3.setCell (p := ⟨w2.heap.size, 3, none⟩) hb2.size (.int .i64 qv)).setCell (p := ⟨w2.heap.size, 1, none⟩) hb2.size (.int .i64 (qt : Int)))
                      have hp4 := (hp3.set 3 (.int .i64 qv)).set 1 (.int .i64 (qt : Int))
                      refine wpList_append_blk rfl (.tmp 77) (.tmp 79) _ _ 4 32 rfl ptE w wr w.heap.size hbw hbw.size (hs3.alloc hs3.size _) u5 acc.length (rowCells acc) rfl HO.out _ 1 (ptCells ⟨i, qt, true, qv⟩) rfl (Blk.new' (ptCells ⟨i, qt, true, qv⟩) _ (by simp)) rfl (ptCells_one _) (by unfold maxLen; omega) (by omega) ?_
                      intro v' W' ho' hb' hg' hlt'
                      have hk1 := ((hp4.alloc _).grown hg' (fun e => by have := hlt' _ e.symm; have := hb2.size; omega)).cell 1
                      simp at hk1
                      have HO2 := Lib.hid ho'
                      clear ho'))
                    go_roundw
                    case rel => exact ⟨qt, acc ++ [⟨i, qt, true, qv⟩], HTO.out.2, by have := HTO.out.1; omega, rfl, by have := HTO.out.1; simp at this ⊢; omega, by rw [List.length_append, rowCells_app]; exact HO2.out, hb', map_snoc HR.out _ HS2.out⟩
                    case measure => have := HTO.out; simp [intOf] at this ⊢; omega
                · have HP := pieceB_plain s i HL.out (by rw [HRN.out.1]; omega) (by rw [HRN.out.1]; omega) (by rw [HRN.out.1]; exact hesc)
                  have HTO := Lib.hid (pieceB_to s i hin)
                  have HS := Lib.hid (parRest_step s i hin HQN.out)
                  have hz : byt s i ≠ 92 := fun h => hesc (by
                    have e := HRN.out.1
                    have h9 := byt_eq s i hin
                    rw [decode_ascii s i hin (by omega)] at e
                    simp at e
                    omega)
                  have hz2 : (byt s i == 92) = false := by simpa using hz
                  rw [hz2] at HS
                  rw [HP] at HTO HS
                  rw [HRN.out.1, HRN.out.2] at HTO HS
                  have HS2 := Lib.hid (HS.out rfl)
                  have hr1 : ((r : Int) == 92) = false := by rw [beq_eq_false_iff_ne]; omega
                  have hr2 : ((r : Int) == 10) = false := by rw [beq_eq_false_iff_ne]; omega
                  have hr3 : ((r : Int) == 13) = false := by rw [beq_eq_false_iff_ne]; omega
                  have hr0 : (((r : Int) == 65533) = true ∧ ((n : Int) == 1) = false) ∨ (((r : Int) == 65533) = false) := by
                    by_cases h : r = 65533
                    · left
                      refine ⟨by rw [beq_iff_eq]; omega, by rw [beq_eq_false_iff_ne]; omega⟩
                    · right
                      rw [beq_eq_false_iff_ne]; omega
                  clear HP hz hz2 hnl HS hesc hbad
                  rcases hr0 with ⟨hr0, hr00⟩ | hr0
                  all_goals
                    go_wp2_with (go_at_call 23; refine HD.out.mono ?_; rintro e w2 ⟨rfl, hb2⟩)
                    have hg := (hbw.call hb2).size
                    go_quiet (fail)
                    have hp3 := (Blk.new w2 [.int .i64 (i : Int), .int .i64 ((i : Int) + n), .bool false, .int .i64 (r : Int)] 53).drew nq
                    have hbr3 := (below_drew (hb2.alloc hb2.size (.cells #[.int .i64 (i : Int), .int .i64 ((i : Int) + n), .bool false, .int .i64 (r : Int)] 53)) nq)
                    have k0 := hp3.cell 0
                    have k1 := hp3.cell 1
                    have k2 := hp3.cell 2
                    have k3 := hp3.cell 3
                    simp at k0 k1 k2 k3
                    go_wp2_with (
                        at_builtin
                        refine wpList_append_blk rfl (.tmp 77) (.tmp 79) _ _ 4 32 rfl ptE w wr w.heap.size hbw hbw.size (hbr3.alloc hbr3.size _) u5 acc.length (rowCells acc) rfl HO.out _ 1 [.int .i64 (i : Int), .int .i64 ((i : Int) + n), .bool false, .int .i64 (r : Int)] rfl (Blk.new' [.int .i64 (i : Int), .int .i64 ((i : Int) + n), .bool false, .int .i64 (r : Int)] _ (by simp)) rfl (fun _ h => ptCells_one ⟨i, i + n, false, r⟩ _ (by simpa [ptCells] using h)) (by unfold maxLen; omega) (by omega) ?_
                        intro v' W' ho' hb' hg' hlt'
                        have hk1 := ((hp3.alloc _).grown hg' (fun e => by have := hlt' _ e.symm; have := hb2.size; omega)).cell 1
                        simp at hk1
                        have HO2 := Lib.hid ho'
                        clear ho')
                    have HC : Hid (ptCells ⟨i, i + n, false, r⟩ = [.int .i64 (i : Int), .int .i64 ((i : Int) + n), .bool false, .int .i64 (r : Int)]) := Lib.hid (by simp [ptCells])
                    go_roundw
                    case rel => exact ⟨i + n, acc ++ [⟨i, i + n, false, r⟩], HTO.out.2.1, by omega, by go_num, by simp; omega, by rw [List.length_append, rowCells_app, HC.out]; exact HO2.out, hb', map_snoc HR.out _ HS2.out⟩
                    case measure => simp [intOf]; omega
        · have hie : i = s.size := by omega
          subst hie
          have HPO : Hid (partsB s = .error s.size) := Lib.hid (by rw [← HR.out, parRest_out s s.size (by omega)]; rfl)
          have he1 : ((s.size : Int) != (s.size : Int) - 1) = true := by rw [bne_iff_ne]; omega
          have he2 : min ((s.size : Int) + 1) (s.size : Int) = (s.size : Int) := by omega
          clear hin
          go_wp2_with fail
          simp (config := { zetaDelta := true }) only [Exit.noGoto_ret, Exit.inBlock, Exit.then]
          go_ret3
          exact ⟨partsOut_err HPO.out rfl, hbw⟩
  · have hq1 : (((s[0]'h1).toNat : Int) != 39) = true := by rw [bne_iff_ne]; omega
    have hq2 : (((s[0]'h1).toNat : Int) != 34) = true := by rw [bne_iff_ne]; omega
    have HPO : Hid (partsB s = .error 0) := Lib.hid (by unfold partsB; have hb := byt_eq s 0 h1; rw [if_pos (by omega)])
    clear hq
    go_enter Tryd.func20, Tryd.ntmps20
    go_wp2_with fail
    go_step3
    go_wp2_with fail
    simp (config := { zetaDelta := true }) only [Exit.noGoto_ret]
    go_ret3
    exact ⟨partsOut_err HPO.out rfl, Below.refl _ w⟩
end Go.Proofs.YtcjnlbelgmcpeaaDoor
