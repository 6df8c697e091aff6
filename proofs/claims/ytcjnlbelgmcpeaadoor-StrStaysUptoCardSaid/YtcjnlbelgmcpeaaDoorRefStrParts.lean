/- The reference's Parts and Check: they tell partsB. -/
import Derived.Test.YtcjnlbelgmcpeaaDoorRefStrNext
namespace Go.Proofs.YtcjnlbelgmcpeaaDoor
open Go.RowKit
set_option maxRecDepth 100000
set_option linter.unusedVariables false
set_option linter.unusedSimpArgs false

/-- A part as the reference holds it. -/
structure RPt where
  p : Pt
  ch : Int
  a : Option Addr
  n : Nat
def rCells1 (r : RPt) : List Value := [.int .i64 r.p.fr, .int .i64 r.p.to, .slice r.a r.n r.n, .int .i64 r.ch]
def rCells (rs : List RPt) : List Value := rs.flatMap rCells1
theorem rCells_app (rs : List RPt) (r : RPt) : rCells (rs ++ [r]) = rCells rs ++ rCells1 r := by simp [rCells]
theorem rCells1_one (q : RPt) : ∀ u ∈ rCells1 q, u.oneCell' = true := by
  intro u hu
  simp only [rCells1, List.mem_cons, List.mem_nil_iff, or_false] at hu
  rcases hu with rfl | rfl | rfl | rfl <;> rfl
theorem rptE : ElemOf Tryd.prog 49 55 4 48 := .mk' (.agg #[.int .i64 0, .int .i64 0, .slice none 0 0, .int .i64 0]) Tryd.underlying49 (by kernel_rfl) rfl (by decide)
/-- What holds of a part's units and its character. -/
def RGood (W : World) (B : Nat) (s : ByteArray) (r : RPt) : Prop := UnitsAt W B (.slice r.a r.n r.n) (unitsOf r.p.val) ∧ r.ch = chP s r.p.fr
theorem RGood.below {W W' : World} {B : Nat} {s : ByteArray} {r : RPt} (h : RGood W B s r) (hb : Below W.heap.size W W') : RGood W' B s r := ⟨h.1.below hb, h.2⟩
theorem UnitsAt.grown {W W' : World} {B B' n : Nat} {v v0 : Value} {us : List Int} {xs : List Value} (h : UnitsAt W B v us) (hg : W.grownBy W' v0.ownBlock) (ho : W.ownsRow B' 55 4 v0 n xs) : UnitsAt W' B v us := by
  rcases h with h | ⟨g, h1, h2, h3, h4⟩
  · exact .inl h
  · refine .inr ⟨g, h1, h2, h3.grown hg ?_, h4⟩
    intro e
    rcases ho.2 with ⟨rfl, _⟩ | ⟨g', cap, cur, rfl, _, hh, _⟩
    · simp [Value.ownBlock] at e
    · simp [Value.ownBlock] at e
      subst e
      unfold Blk at h3
      rw [h3] at hh
      simp at hh
theorem RGood.grown {W W' : World} {B B' n : Nat} {v0 : Value} {s : ByteArray} {r : RPt} {xs : List Value} (h : RGood W B s r) (hg : W.grownBy W' v0.ownBlock) (ho : W.ownsRow B' 55 4 v0 n xs) : RGood W' B s r := ⟨h.1.grown hg ho, h.2⟩

/-- What Parts hands out. -/
def RPartsOut (s : ByteArray) (w : World) (e : Ending) (w' : World) : Prop :=
  match partsB s with
  | .ok ps => ∃ v rs, e = .returned (.tuple #[v, .int .i64 (-1)]) ∧ rs.map RPt.p = ps ∧ w'.ownsRow w.heap.size 55 4 v rs.length (rCells rs) ∧ (∀ r ∈ rs, RGood w' w.heap.size s r) ∧ rs.length ≤ s.size
  | .error p => e = .returned (.tuple #[.slice none 0 0, .int .i64 (p : Int)])
theorem rpartsOut_err {s : ByteArray} {w w' : World} {e : Ending} {p : Nat} (h : partsB s = .error p) (he : e = .returned (.tuple #[.slice none 0 0, .int .i64 (p : Int)])) : RPartsOut s w e w' := by
  unfold RPartsOut
  rw [h]
  exact he
theorem rpartsOut_ok {s : ByteArray} {w w' : World} {e : Ending} {rs : List RPt} {v : Value} (h : partsB s = .ok (rs.map RPt.p)) (he : e = .returned (.tuple #[v, .int .i64 (-1)])) (ho : w'.ownsRow w.heap.size 55 4 v rs.length (rCells rs)) (hg : ∀ r ∈ rs, RGood w' w.heap.size s r) (hl : rs.length ≤ s.size) : RPartsOut s w e w' := by
  unfold RPartsOut
  rw [h]
  exact ⟨v, rs, he, rfl, ho, hg, hl⟩
theorem rmap_snoc {rs : List RPt} {r : RPt} {x y : Except Nat (List Pt)} (h : x.map (rs.map RPt.p ++ ·) = y) (x' : Except Nat (List Pt)) (hx : x = x'.map (r.p :: ·)) : x'.map ((rs ++ [r]).map RPt.p ++ ·) = y := by
  rw [← h, hx]
  cases x' <;> simp [Except.map]

set_option maxHeartbeats 8000000 in
theorem rparts_any (s : ByteArray) (w : World) (hs : s.size ≤ 1048580) :
    Calls Tryd.prog 21 #[.string s] w fun e w' => RPartsOut s w e w' ∧ Below w.heap.size w w' := by
  by_cases h0 : s.size = 0
  · have HP : Hid (partsB s = .error 0) := Lib.hid (by unfold partsB; rw [if_pos (Or.inl h0)])
    have h0' : ((s.size : Int) == 0) = true := by rw [beq_iff_eq]; omega
    clear h0
    go_enter Tryd.func21, Tryd.ntmps21
    go_wp2_with fail
    go_ret2
    exact ⟨rpartsOut_err HP.out rfl, Below.refl _ w⟩
  have h1 : 0 < s.size := by omega
  have h0' : ((s.size : Int) == 0) = false := by rw [beq_eq_false_iff_ne]; omega
  by_cases hq : (s[0]'h1).toNat = 39 ∨ (s[0]'h1).toNat = 34
  · have HPB : Hid ((parRest s 1).map ((([] : List RPt).map RPt.p) ++ ·) = partsB s) := Lib.hid (by
      unfold partsB
      have hb := byt_eq s 0 h1
      rw [if_neg (by omega)]
      cases parRest s 1 <;> rfl)
    obtain ⟨Q, hQ⟩ : ∃ Q : Nat, (s[0]'h1).toNat = Q := ⟨_, rfl⟩
    have HQ0 := Lib.hid hQ
    clear hQ
    go_enter Tryd.func21, Tryd.ntmps21
    rcases hq with hq | hq
    all_goals
      first
        | have hq1 : ((s[0]'h1).toNat : Int) = 39 := by omega
        | have hq1 : ((s[0]'h1).toNat : Int) = 34 := by omega
      go_wp2_with fail
      clear hq hq1
      go_loopw [4, 5] (fun out a wr => ∃ (i : Nat) (rs : List RPt), i ≤ s.size ∧ 1 ≤ i ∧ a = .int .i64 (i : Int) ∧ rs.length + 1 ≤ i ∧ wr.ownsRow w.heap.size 55 4 out rs.length (rCells rs) ∧ Below w.heap.size w wr ∧ (parRest s i).map (rs.map RPt.p ++ ·) = partsB s ∧ ∀ r ∈ rs, RGood wr w.heap.size s r) (fun _ a _ => s.size - (intOf a).toNat)
      case atStart => exact ⟨1, [], by omega, Nat.le_refl _, rfl, by simp, World.ownsRow_nil _ _ _ _, Below.refl _ w, HPB.out, fun r h => by simp at h⟩
      case round =>
        have hq1 : ((s[0]'h1).toNat : Int) = (Q : Int) := by have := HQ0.out; omega
        obtain ⟨i, rs, hi, hi1, rfl, hal, hown, hbw, hrest, hgood⟩ := hrel
        have HO := Lib.hid hown
        have HR := Lib.hid hrest
        have HGD := Lib.hid hgood
        clear hown hrest hgood
        by_cases hin : i < s.size
        · by_cases hqq : (s[i]'hin).toNat = Q
          · have hq2 : ((s[i]'hin).toNat : Int) = (Q : Int) := by omega
            have HQ := Lib.hid (parRest_quote s i hin (by rw [← byt_eq s i hin, ← byt_eq s 0 h1]; omega))
            clear hqq
            by_cases hend : i + 1 = s.size
            · have HPO : Hid (partsB s = .ok (rs.map RPt.p)) := Lib.hid (by rw [← HR.out, HQ.out, if_pos hend]; simp [Except.map])
              go_wp2_with fail
              go_quiet (fail)
              go_wp2_with fail
              go_ret2
              exact ⟨rpartsOut_ok HPO.out rfl (own_below HO.out (below_drew (Below.refl _ _) _)) (fun r h => (HGD.out r h).below (below_drew (Below.refl _ _) _)) (by omega), below_drew hbw _⟩
            · have HPO : Hid (partsB s = .error (i + 1)) := Lib.hid (by rw [← HR.out, HQ.out, if_neg hend]; rfl)
              have he1 : (i : Int) + 1 < (s.size : Int) := by omega
              go_wp2_with fail
              go_quiet (fail)
              go_wp2_with fail
              go_ret2
              exact ⟨rpartsOut_err HPO.out rfl, below_drew hbw _⟩
          · have hq2 : (((s[i]'hin).toNat : Int) == (Q : Int)) = false := by rw [beq_eq_false_iff_ne]; omega
            have hqn : byt s i ≠ byt s 0 := by rw [← byt_eq s i hin, ← byt_eq s 0 h1]; omega
            have HN := Lib.hid (fun W => rnext_any s i W (by omega) hin)
            have HB := Lib.hid (parRest_bad s i hin hqn)
            have HS := Lib.hid (parRest_step s i hin hqn)
            have HTO := Lib.hid (pieceB_to s i hin)
            unfold NextOut at HN
            generalize pieceB s i = q at *
            obtain ⟨qv, qt, qf⟩ := q
            clear hqn hqq
            cases qf
            · have HPO : Hid (partsB s = .error qt) := Lib.hid (by rw [← HR.out, HB.out rfl]; rfl)
              clear HB HS
              go_wp2_with fail
              go_quiet (fail)
              go_wp2_with fail
              refine (HN.out _).mono ?_
              rintro e w1 ⟨⟨a, n, ch, rfl, hu⟩, hb⟩
              clear hu
              have HB1 := Lib.hid ((below_drew hbw nq).call hb)
              clear hb
              go_wp2_with fail
              go_quiet (fail)
              go_wp2_with fail
              go_ret2
              exact ⟨rpartsOut_err HPO.out rfl, below_drew (HB1.out.alloc HB1.out.size _) _⟩
            · have HS2 := Lib.hid (HS.out rfl)
              clear HB HS
              go_wp2_with fail
              go_quiet (fail)
              go_wp2_with fail
              refine (HN.out _).mono ?_
              rintro e w1 ⟨⟨a, n, ch, rfl, hu⟩, hb⟩
              have HU := Lib.hid (hu (by simp))
              have HB0 := Lib.hid ((below_drew (Below.refl wr.heap.size wr) nq).call hb)
              have HB1 := Lib.hid ((below_drew hbw nq).call hb)
              have HBN := Lib.hid hb
              have hz := hb.size
              simp at hz
              clear hb hu
              go_wp2_with (
                at_builtin
                refine wpList_append_blk rfl (.tmp 43) (.tmp 45) _ _ 4 48 rfl rptE w wr w.heap.size hbw hbw.size ((HB0.out.alloc HB0.out.size _).alloc (by simp; omega) _) u4 rs.length (rCells rs) rfl HO.out _ 1 (rCells1 ⟨⟨i, qt, byt s i == 92, qv⟩, ch, a, n⟩) rfl (Blk.new' (rCells1 ⟨⟨i, qt, byt s i == 92, qv⟩, ch, a, n⟩) _ (by simp)) rfl (rCells1_one _) (by unfold maxLen; omega) (by omega) ?_
                intro v' W' ho' hb' hg' hlt'
                have hk1 := ((((Blk.new w1 _ _).alloc _).grown hg' (fun e => by have := hlt' _ e.symm; omega))).cell 1
                simp at hk1
                have HGD2 : Hid (∀ r ∈ rs ++ [⟨⟨i, qt, byt s i == 92, qv⟩, ch, a, n⟩], RGood W' w.heap.size s r) := Lib.hid (by
                  have hbW := ((Below.refl w1.heap.size w1).alloc (Nat.le_refl _) (.cells #[.int .i64 (i : Int), .int .i64 (qt : Int), .slice a n n, .int .i64 ch] 55)).alloc (by simp) (.cells #[.int .i64 (i : Int), .int .i64 (qt : Int), .slice a n n, .int .i64 ch] 55)
                  have hoW := own_below HO.out (HB0.out.trans (hbW.mono HB0.out.size))
                  intro r hr
                  rcases List.mem_append.1 hr with hr | hr
                  · exact ((HGD.out r hr).below (HB0.out.trans (hbW.mono HB0.out.size))).grown hg' hoW
                  · simp only [List.mem_singleton] at hr
                    subst hr
                    exact RGood.grown ⟨(HU.out.1.below hbW).low hbw.size, HU.out.2⟩ hg' hoW)
                have HO2 := Lib.hid ho'
                clear ho')
              go_roundw
              case rel => exact ⟨qt, rs ++ [⟨⟨i, qt, byt s i == 92, qv⟩, ch, a, n⟩], HTO.out.2.1, by have := HTO.out.2.2 (by simp); omega, rfl, by have := HTO.out.2.2 (by simp); simp; omega, by rw [List.length_append, rCells_app]; exact HO2.out, hb', rmap_snoc HR.out _ HS2.out, HGD2.out⟩
              case measure => have e1 := HTO.out.2.2 (by simp); have e2 := HTO.out.2.1; simp [intOf]; omega
        · have hie : i = s.size := by omega
          subst hie
          have HPO : Hid (partsB s = .error s.size) := Lib.hid (by rw [← HR.out, parRest_out s s.size (by omega)]; rfl)
          clear hin
          go_wp2_with fail
          go_ret2
          exact ⟨rpartsOut_err HPO.out rfl, hbw⟩
  · have hq1 : (((s[0]'h1).toNat : Int) != 39) = true := by rw [bne_iff_ne]; omega
    have hq2 : (((s[0]'h1).toNat : Int) != 34) = true := by rw [bne_iff_ne]; omega
    have HPO : Hid (partsB s = .error 0) := Lib.hid (by unfold partsB; have hb := byt_eq s 0 h1; rw [if_pos (by omega)])
    clear hq
    go_enter Tryd.func21, Tryd.ntmps21
    go_wp2_with fail
    go_ret2
    exact ⟨rpartsOut_err HPO.out rfl, Below.refl _ w⟩

set_option maxHeartbeats 1000000 in
theorem rcheck_any (s : ByteArray) (w : World) (hs : s.size ≤ 1048580) :
    Calls Tryd.prog 11 #[.string s] w fun e w' => e = .returned (.tuple #[.int .i64 (checkPos s), .int .i64 (checkCode s)]) ∧ Below w.heap.size w w' := by
  have HC := Lib.hid (rparts_any s w hs)
  cases hp : partsB s with
  | ok ps =>
    have H1 : Hid (checkPos s = 0 ∧ checkCode s = 0) := Lib.hid (by unfold checkPos checkCode; rw [hp]; exact ⟨rfl, rfl⟩)
    have HP := Lib.hid hp
    clear hp
    go_enter Tryd.func11, Tryd.ntmps11
    go_wp2_with (go_at_call 21; refine HC.out.mono ?_; rintro e w1 ⟨he, hb1⟩; unfold RPartsOut at he; rw [HP.out] at he; obtain ⟨v, rs, rfl, hm, ho, hg, hl⟩ := he; clear hm ho hg)
    go_ret2
    exact ⟨by rw [H1.out.1, H1.out.2]; rfl, hb1⟩
  | error p =>
    have H1 : Hid (checkPos s = (p : Int) ∧ checkCode s = 300) := Lib.hid (by unfold checkPos checkCode; rw [hp]; exact ⟨rfl, rfl⟩)
    have HP := Lib.hid hp
    clear hp
    go_enter Tryd.func11, Tryd.ntmps11
    go_wp2_with (go_at_call 21; refine HC.out.mono ?_; rintro e w1 ⟨he, hb1⟩; unfold RPartsOut at he; rw [HP.out] at he; subst he)
    go_ret2
    exact ⟨by rw [H1.out.1, H1.out.2]; rfl, hb1⟩
end Go.Proofs.YtcjnlbelgmcpeaaDoor
