/- WHAT IS PROVED: StrEscapes holds for every slice of ints and every choice of quotes: of a list of parts the units are theirs, in their row. Condition: the listed tables of the library's decoder read as its text lays them (the card ties them). -/
import Derived.Test.YtcjnlbelgmcpeaaDoorLawStrUnits
import Derived.Test.YtcjnlbelgmcpeaaDoorStrPickPlain
import Derived.Test.YtcjnlbelgmcpeaaDoorArgs
namespace Go.Proofs.YtcjnlbelgmcpeaaDoor
open Go.RowKit Go.ChangeShapes Go.WideShapes Go.ChangeAt
open Go.ChangeMaps (open_string shut_string)
set_option maxRecDepth 100000
set_option linter.unusedVariables false
set_option linter.unusedSimpArgs false

theorem laidOut : laidOutB Tryd.prog = true := by kernel_rfl
theorem u64_nat (a : Int) : ∃ u : Nat, IntKind.u64.wrap a = (u : Int) := by
  refine ⟨(IntKind.u64.wrap a).toNat, ?_⟩
  rw [IntKind.wrap_u64]
  omega
theorem code_ok2 {s : ByteArray} {ps : List Pt} (h : partsB s = .ok ps) : checkCode s = 0 := by unfold checkCode; rw [h]

/-- What a round leaves. -/
def EscAt (w wr : World) (zs : List Int) (k : Nat) (S : ByteArray) (v : Value) : Prop :=
  ∃ l : List Nat, l.length = k ∧ (∀ x ∈ l, x < 12) ∧ S = escS l ∧ wr.ownsRow w.heap.size 3 1 v (escW l).length (intCells (escW l))
theorem escAt_more {w wr' : World} {zs : List Int} {k : Nat} {l : List Nat} {v : Value} (r : Nat) (hr : r < 12) (hl : l.length = k) (hx : ∀ x ∈ l, x < 12)
    (ho : wr'.ownsRow w.heap.size 3 1 v (escW l ++ escUnits r).length (intCells (escW l ++ escUnits r))) : EscAt w wr' zs (k + 1) (escS l ++ ⟨(escLit r).toArray⟩) v :=
  ⟨l ++ [r], by simp [hl], fun x h => by rcases List.mem_append.1 h with h | h; exact hx x h; simp at h; omega, (escS_snoc l r).symm, by rw [escW_snoc]; exact ho⟩

set_option maxHeartbeats 16000000 in
theorem strEscapes_true (v : Value) (zs : List Int) (w : World) (hv : IntsIn w w.heap.size v zs) (hm : zs.length ≤ maxLen) (hT : Tabs w) :
    Calls Tryd.prog 8 #[v, .bool true] w fun e w' => e = .returned (.bool true) ∧ Below w.heap.size w w' := by
  have hm9 : zs.length ≤ 9223372036854775807 := by unfold maxLen at hm; omega
  clear hm
  obtain ⟨A, c, rfl⟩ := hv.len
  have HT := Lib.hid hT
  have HV := Lib.hid hv
  clear hT hv
  go_enter Tryd.func8, Tryd.ntmps8
  go_wp2_with (go_at_call 13; refine (awake_any _ HT.out).mono ?_; rintro e w1 ⟨rfl, hb1⟩)
  go_loopw [6, 7, 8, 9] (fun s v i _ wr => ∃ (k : Nat) (S : ByteArray), k ≤ zs.length ∧ k ≤ 40 ∧ i = .int .i64 (k : Int) ∧ s = .string S ∧ EscAt w wr zs k S v ∧ Below w.heap.size w wr) (fun _ _ i _ _ => 40 - (intOf i).toNat)
  case atStart => exact ⟨0, ⟨#[]⟩, Nat.zero_le _, by omega, rfl, rfl, ⟨[], rfl, by simp, rfl, World.ownsRow_nil _ _ _ _⟩, hb1⟩
  case round =>
    obtain ⟨k, S, hk, hk40, rfl, rfl, hat, hbw⟩ := hrel
    obtain ⟨l, hll, hlx, hS, hown⟩ := hat
    have hz' := hbw.size
    by_cases hlt : k < zs.length ∧ k < 40
    · obtain ⟨hlt1, hlt2⟩ := hlt
      rcases HV.out.below hbw (Nat.le_refl _) with ⟨A', c', e, hz⟩ | ⟨b, off, c', e, hltb, hpos, hc⟩
      · rw [hz] at hlt1; simp at hlt1
      injection e with e1 _ e3
      subst e1
      subst e3
      have c0 := hc k hlt1
      generalize hz0e : zs.getD k 0 = z at c0
      obtain ⟨u, hu⟩ := u64_nat z
      have hel := escW_len l
      have HO := Lib.hid hown
      have hS4 := (escS_parts 39 (by decide) l hlx).2
      rw [← hS] at hS4
      have hS5 : S.size ≤ 400 := by omega
      have HLX := Lib.hid hlx
      have HLL := Lib.hid hll
      have HS := Lib.hid hS
      have hwl : (escW l).length ≤ 80 := by omega
      clear hc hz0e hm9 hown hlx hel hll hS hS4
      have hk1 : (k : Int) < (zs.length : Int) := by omega
      have hk2 : (k : Int) < 40 := by omega
      have hr12 : (u : Int) % 12 = 0 ∨ (u : Int) % 12 = 1 ∨ (u : Int) % 12 = 2 ∨ (u : Int) % 12 = 3 ∨ (u : Int) % 12 = 4 ∨ (u : Int) % 12 = 5 ∨ (u : Int) % 12 = 6 ∨ (u : Int) % 12 = 7 ∨ (u : Int) % 12 = 8 ∨ (u : Int) % 12 = 9 ∨ (u : Int) % 12 = 10 ∨ (u : Int) % 12 = 11 := by omega
      rcases hr12 with hr | hr | hr | hr | hr | hr | hr | hr | hr | hr | hr | hr
      · go_wp2_with (
          at_builtin
          refine wpList_append_blk rfl (.tmp 41) (.tmp 42) _ _ 1 8 rfl intE w wr w.heap.size hbw hz' ((Below.refl wr.heap.size wr).alloc (Nat.le_refl _) _) u7 (escW l).length (intCells (escW l)) rfl HO.out _ 1 (intCells [97]) rfl (Blk.new' (intCells [97]) _ (by simp)) rfl (intCells_one _) (by unfold maxLen; omega) (by omega) ?_
          intro v' W' ho' hb' hg' hlt'
          have HO2 := Lib.hid (own_snoc (ys := [97]) ho')
          clear ho')
        go_roundw
        case rel => exact ⟨k + 1, S ++ ⟨#[97]⟩, by omega, by omega, by go_num, rfl, by rw [HS.out]; exact escAt_more 0 (by omega) HLL.out HLX.out HO2.out, hb'⟩
        case measure => simp [intOf]; omega
      · go_wp2_with (
          at_builtin
          refine wpList_append_blk rfl (.tmp 48) (.tmp 49) _ _ 1 8 rfl intE w wr w.heap.size hbw hz' ((Below.refl wr.heap.size wr).alloc (Nat.le_refl _) _) u7 (escW l).length (intCells (escW l)) rfl HO.out _ 1 (intCells [10]) rfl (Blk.new' (intCells [10]) _ (by simp)) rfl (intCells_one _) (by unfold maxLen; omega) (by omega) ?_
          intro v' W' ho' hb' hg' hlt'
          have HO2 := Lib.hid (own_snoc (ys := [10]) ho')
          clear ho')
        go_roundw
        case rel => exact ⟨k + 1, S ++ ⟨#[92, 110]⟩, by omega, by omega, by go_num, rfl, by rw [HS.out]; exact escAt_more 1 (by omega) HLL.out HLX.out HO2.out, hb'⟩
        case measure => simp [intOf]; omega
      · go_wp2_with (
          at_builtin
          refine wpList_append_blk rfl (.tmp 55) (.tmp 56) _ _ 1 8 rfl intE w wr w.heap.size hbw hz' ((Below.refl wr.heap.size wr).alloc (Nat.le_refl _) _) u7 (escW l).length (intCells (escW l)) rfl HO.out _ 1 (intCells [127]) rfl (Blk.new' (intCells [127]) _ (by simp)) rfl (intCells_one _) (by unfold maxLen; omega) (by omega) ?_
          intro v' W' ho' hb' hg' hlt'
          have HO2 := Lib.hid (own_snoc (ys := [127]) ho')
          clear ho')
        go_roundw
        case rel => exact ⟨k + 1, S ++ ⟨#[92, 120, 55, 102]⟩, by omega, by omega, by go_num, rfl, by rw [HS.out]; exact escAt_more 2 (by omega) HLL.out HLX.out HO2.out, hb'⟩
        case measure => simp [intOf]; omega
      · go_wp2_with (
          at_builtin
          refine wpList_append_blk rfl (.tmp 62) (.tmp 63) _ _ 1 8 rfl intE w wr w.heap.size hbw hz' ((Below.refl wr.heap.size wr).alloc (Nat.le_refl _) _) u7 (escW l).length (intCells (escW l)) rfl HO.out _ 1 (intCells [233]) rfl (Blk.new' (intCells [233]) _ (by simp)) rfl (intCells_one _) (by unfold maxLen; omega) (by omega) ?_
          intro v' W' ho' hb' hg' hlt'
          have HO2 := Lib.hid (own_snoc (ys := [233]) ho')
          clear ho')
        go_roundw
        case rel => exact ⟨k + 1, S ++ ⟨#[92, 117, 48, 48, 69, 57]⟩, by omega, by omega, by go_num, rfl, by rw [HS.out]; exact escAt_more 3 (by omega) HLL.out HLX.out HO2.out, hb'⟩
        case measure => simp [intOf]; omega
      · go_wp2_with (
          at_builtin
          refine wpList_append_blk rfl (.tmp 69) (.tmp 70) _ _ 1 8 rfl intE w wr w.heap.size hbw hz' ((Below.refl wr.heap.size wr).alloc (Nat.le_refl _) _) u7 (escW l).length (intCells (escW l)) rfl HO.out _ 2 (intCells [55357, 56832]) rfl (Blk.new' (intCells [55357, 56832]) _ (by simp)) rfl (intCells_one _) (by unfold maxLen; omega) (by omega) ?_
          intro v' W' ho' hb' hg' hlt'
          have HO2 := Lib.hid (own_snoc (ys := [55357, 56832]) ho')
          clear ho')
        go_roundw
        case rel => exact ⟨k + 1, S ++ ⟨#[92, 117, 123, 49, 70, 54, 48, 48, 125]⟩, by omega, by omega, by go_num, rfl, by rw [HS.out]; exact escAt_more 4 (by omega) HLL.out HLX.out HO2.out, hb'⟩
        case measure => simp [intOf]; omega
      · go_wp2_with (
          at_builtin
          refine wpList_append_blk rfl (.tmp 76) (.tmp 77) _ _ 1 8 rfl intE w wr w.heap.size hbw hz' ((Below.refl wr.heap.size wr).alloc (Nat.le_refl _) _) u7 (escW l).length (intCells (escW l)) rfl HO.out _ 2 (intCells [55357, 56832]) rfl (Blk.new' (intCells [55357, 56832]) _ (by simp)) rfl (intCells_one _) (by unfold maxLen; omega) (by omega) ?_
          intro v' W' ho' hb' hg' hlt'
          have HO2 := Lib.hid (own_snoc (ys := [55357, 56832]) ho')
          clear ho')
        go_roundw
        case rel => exact ⟨k + 1, S ++ ⟨#[240, 159, 152, 128]⟩, by omega, by omega, by go_num, rfl, by rw [HS.out]; exact escAt_more 5 (by omega) HLL.out HLX.out HO2.out, hb'⟩
        case measure => simp [intOf]; omega
      · go_wp2_with fail
        go_roundw
        case rel => exact ⟨k + 1, S ++ ⟨#[92, 10]⟩, by omega, by omega, by go_num, rfl, by rw [HS.out]; exact escAt_more 6 (by omega) HLL.out HLX.out (by rw [show escUnits 6 = [] from rfl, List.append_nil]; exact HO.out), hbw⟩
        case measure => simp [intOf]; omega
      · go_wp2_with (
          at_builtin
          refine wpList_append_blk rfl (.tmp 87) (.tmp 88) _ _ 1 8 rfl intE w wr w.heap.size hbw hz' ((Below.refl wr.heap.size wr).alloc (Nat.le_refl _) _) u7 (escW l).length (intCells (escW l)) rfl HO.out _ 1 (intCells [39]) rfl (Blk.new' (intCells [39]) _ (by simp)) rfl (intCells_one _) (by unfold maxLen; omega) (by omega) ?_
          intro v' W' ho' hb' hg' hlt'
          have HO2 := Lib.hid (own_snoc (ys := [39]) ho')
          clear ho')
        go_roundw
        case rel => exact ⟨k + 1, S ++ ⟨#[92, 39]⟩, by omega, by omega, by go_num, rfl, by rw [HS.out]; exact escAt_more 7 (by omega) HLL.out HLX.out HO2.out, hb'⟩
        case measure => simp [intOf]; omega
      · go_wp2_with (
          at_builtin
          refine wpList_append_blk rfl (.tmp 94) (.tmp 95) _ _ 1 8 rfl intE w wr w.heap.size hbw hz' ((Below.refl wr.heap.size wr).alloc (Nat.le_refl _) _) u7 (escW l).length (intCells (escW l)) rfl HO.out _ 1 (intCells [34]) rfl (Blk.new' (intCells [34]) _ (by simp)) rfl (intCells_one _) (by unfold maxLen; omega) (by omega) ?_
          intro v' W' ho' hb' hg' hlt'
          have HO2 := Lib.hid (own_snoc (ys := [34]) ho')
          clear ho')
        go_roundw
        case rel => exact ⟨k + 1, S ++ ⟨#[92, 34]⟩, by omega, by omega, by go_num, rfl, by rw [HS.out]; exact escAt_more 8 (by omega) HLL.out HLX.out HO2.out, hb'⟩
        case measure => simp [intOf]; omega
      · go_wp2_with (
          at_builtin
          refine wpList_append_blk rfl (.tmp 101) (.tmp 102) _ _ 1 8 rfl intE w wr w.heap.size hbw hz' ((Below.refl wr.heap.size wr).alloc (Nat.le_refl _) _) u7 (escW l).length (intCells (escW l)) rfl HO.out _ 1 (intCells [113]) rfl (Blk.new' (intCells [113]) _ (by simp)) rfl (intCells_one _) (by unfold maxLen; omega) (by omega) ?_
          intro v' W' ho' hb' hg' hlt'
          have HO2 := Lib.hid (own_snoc (ys := [113]) ho')
          clear ho')
        go_roundw
        case rel => exact ⟨k + 1, S ++ ⟨#[92, 113]⟩, by omega, by omega, by go_num, rfl, by rw [HS.out]; exact escAt_more 9 (by omega) HLL.out HLX.out HO2.out, hb'⟩
        case measure => simp [intOf]; omega
      · go_wp2_with (
          at_builtin
          refine wpList_append_blk rfl (.tmp 108) (.tmp 109) _ _ 1 8 rfl intE w wr w.heap.size hbw hz' ((Below.refl wr.heap.size wr).alloc (Nat.le_refl _) _) u7 (escW l).length (intCells (escW l)) rfl HO.out _ 2 (intCells [0, 122]) rfl (Blk.new' (intCells [0, 122]) _ (by simp)) rfl (intCells_one _) (by unfold maxLen; omega) (by omega) ?_
          intro v' W' ho' hb' hg' hlt'
          have HO2 := Lib.hid (own_snoc (ys := [0, 122]) ho')
          clear ho')
        go_roundw
        case rel => exact ⟨k + 1, S ++ ⟨#[92, 48, 122]⟩, by omega, by omega, by go_num, rfl, by rw [HS.out]; exact escAt_more 10 (by omega) HLL.out HLX.out HO2.out, hb'⟩
        case measure => simp [intOf]; omega
      · go_wp2_with (
          at_builtin
          refine wpList_append_blk rfl (.tmp 34) (.tmp 35) _ _ 1 8 rfl intE w wr w.heap.size hbw hz' ((Below.refl wr.heap.size wr).alloc (Nat.le_refl _) _) u7 (escW l).length (intCells (escW l)) rfl HO.out _ 1 (intCells [8232]) rfl (Blk.new' (intCells [8232]) _ (by simp)) rfl (intCells_one _) (by unfold maxLen; omega) (by omega) ?_
          intro v' W' ho' hb' hg' hlt'
          have HO2 := Lib.hid (own_snoc (ys := [8232]) ho')
          clear ho')
        go_roundw
        case rel => exact ⟨k + 1, S ++ ⟨#[226, 128, 168]⟩, by omega, by omega, by go_num, rfl, by rw [HS.out]; exact escAt_more 11 (by omega) HLL.out HLX.out HO2.out, hb'⟩
        case measure => simp [intOf]; omega
    · have hex : k < zs.length → ¬ k < 40 := fun h1 h2 => hlt ⟨h1, h2⟩
      have hdone : ¬ k < zs.length ∨ (k < zs.length ∧ ¬ k < 40) := by
        by_cases h : k < zs.length
        · exact Or.inr ⟨h, hex h⟩
        · exact Or.inl h
      obtain ⟨⟨ps, hps, hfl⟩, hsz⟩ := escS_parts 39 (by decide) l hlx
      rw [← hS] at hps hsz
      have HW := Lib.hid hown
      have HC := Lib.hid (code_ok2 hps)
      have HPS := Lib.hid hps
      have HFL := Lib.hid hfl
      have HLEN := Lib.hid (escW_len l)
      have HQZ : Hid ((wrapQ 39 S).size ≤ 1000) := Lib.hid (by rw [wrap_size]; omega)
      have hS5 : S.size ≤ 400 := by omega
      have hl40 : l.length ≤ 40 := by omega
      clear hown hex hlt hps hfl hS hlx hll hsz
      rcases hdone with hdone | ⟨hd1, hdone⟩
      all_goals
        go_wp2_with fail
        refine (units_any (wrapQ 39 S) wr (by have := HQZ.out; omega) (HT.out.below hbw)).mono ?_
        rintro e w2 ⟨hu1, hw2⟩
        obtain ⟨v1, us1, rfl, ho1, hl1, hbd1, he1⟩ := unitsOut_row hu1
        have hus : us1 = escW l := by rw [he1, HPS.out]; exact HFL.out
        subst hus
        rw [HC.out]
        have HW2 := Lib.hid (hbw.call hw2)
        have HO1 := Lib.hid ho1
        have HOW := Lib.hid (own_below HW.out hw2)
        clear hu1 hw2 ho1 he1 hbd1 hl1
        go_wp2_with (go_at_call 12; refine (num_any _ _).mono ?_; rintro e w9 ⟨rfl, rfl⟩)
        refine (sameInts_any (escW l) (escW l) v1 u7 w2 (by have := HLEN.out; omega) (by have := HLEN.out; omega) (.of_own HO1.out) (.of_own HOW.out)).mono ?_
        rintro e w3 ⟨rfl, hw3⟩
        rw [show (escW l == escW l) = true by simp]
        have HW3 := Lib.hid (HW2.out.call hw3)
        clear hw3
        go_wp2_with fail
        go_ret
        exact ⟨rfl, HW3.out⟩

set_option maxHeartbeats 16000000 in
theorem strEscapes_false (v : Value) (zs : List Int) (w : World) (hv : IntsIn w w.heap.size v zs) (hm : zs.length ≤ maxLen) (hT : Tabs w) :
    Calls Tryd.prog 8 #[v, .bool false] w fun e w' => e = .returned (.bool true) ∧ Below w.heap.size w w' := by
  have hm9 : zs.length ≤ 9223372036854775807 := by unfold maxLen at hm; omega
  clear hm
  obtain ⟨A, c, rfl⟩ := hv.len
  have HT := Lib.hid hT
  have HV := Lib.hid hv
  clear hT hv
  go_enter Tryd.func8, Tryd.ntmps8
  go_wp2_with (go_at_call 13; refine (awake_any _ HT.out).mono ?_; rintro e w1 ⟨rfl, hb1⟩)
  go_loopw [6, 7, 8, 9] (fun s v i _ wr => ∃ (k : Nat) (S : ByteArray), k ≤ zs.length ∧ k ≤ 40 ∧ i = .int .i64 (k : Int) ∧ s = .string S ∧ EscAt w wr zs k S v ∧ Below w.heap.size w wr) (fun _ _ i _ _ => 40 - (intOf i).toNat)
  case atStart => exact ⟨0, ⟨#[]⟩, Nat.zero_le _, by omega, rfl, rfl, ⟨[], rfl, by simp, rfl, World.ownsRow_nil _ _ _ _⟩, hb1⟩
  case round =>
    obtain ⟨k, S, hk, hk40, rfl, rfl, hat, hbw⟩ := hrel
    obtain ⟨l, hll, hlx, hS, hown⟩ := hat
    have hz' := hbw.size
    by_cases hlt : k < zs.length ∧ k < 40
    · obtain ⟨hlt1, hlt2⟩ := hlt
      rcases HV.out.below hbw (Nat.le_refl _) with ⟨A', c', e, hz⟩ | ⟨b, off, c', e, hltb, hpos, hc⟩
      · rw [hz] at hlt1; simp at hlt1
      injection e with e1 _ e3
      subst e1
      subst e3
      have c0 := hc k hlt1
      generalize hz0e : zs.getD k 0 = z at c0
      obtain ⟨u, hu⟩ := u64_nat z
      have hel := escW_len l
      have HO := Lib.hid hown
      have hS4 := (escS_parts 39 (by decide) l hlx).2
      rw [← hS] at hS4
      have hS5 : S.size ≤ 400 := by omega
      have HLX := Lib.hid hlx
      have HLL := Lib.hid hll
      have HS := Lib.hid hS
      have hwl : (escW l).length ≤ 80 := by omega
      clear hc hz0e hm9 hown hlx hel hll hS hS4
      have hk1 : (k : Int) < (zs.length : Int) := by omega
      have hk2 : (k : Int) < 40 := by omega
      have hr12 : (u : Int) % 12 = 0 ∨ (u : Int) % 12 = 1 ∨ (u : Int) % 12 = 2 ∨ (u : Int) % 12 = 3 ∨ (u : Int) % 12 = 4 ∨ (u : Int) % 12 = 5 ∨ (u : Int) % 12 = 6 ∨ (u : Int) % 12 = 7 ∨ (u : Int) % 12 = 8 ∨ (u : Int) % 12 = 9 ∨ (u : Int) % 12 = 10 ∨ (u : Int) % 12 = 11 := by omega
      rcases hr12 with hr | hr | hr | hr | hr | hr | hr | hr | hr | hr | hr | hr
      · go_wp2_with (
          at_builtin
          refine wpList_append_blk rfl (.tmp 41) (.tmp 42) _ _ 1 8 rfl intE w wr w.heap.size hbw hz' ((Below.refl wr.heap.size wr).alloc (Nat.le_refl _) _) u7 (escW l).length (intCells (escW l)) rfl HO.out _ 1 (intCells [97]) rfl (Blk.new' (intCells [97]) _ (by simp)) rfl (intCells_one _) (by unfold maxLen; omega) (by omega) ?_
          intro v' W' ho' hb' hg' hlt'
          have HO2 := Lib.hid (own_snoc (ys := [97]) ho')
          clear ho')
        go_roundw
        case rel => exact ⟨k + 1, S ++ ⟨#[97]⟩, by omega, by omega, by go_num, rfl, by rw [HS.out]; exact escAt_more 0 (by omega) HLL.out HLX.out HO2.out, hb'⟩
        case measure => simp [intOf]; omega
      · go_wp2_with (
          at_builtin
          refine wpList_append_blk rfl (.tmp 48) (.tmp 49) _ _ 1 8 rfl intE w wr w.heap.size hbw hz' ((Below.refl wr.heap.size wr).alloc (Nat.le_refl _) _) u7 (escW l).length (intCells (escW l)) rfl HO.out _ 1 (intCells [10]) rfl (Blk.new' (intCells [10]) _ (by simp)) rfl (intCells_one _) (by unfold maxLen; omega) (by omega) ?_
          intro v' W' ho' hb' hg' hlt'
          have HO2 := Lib.hid (own_snoc (ys := [10]) ho')
          clear ho')
        go_roundw
        case rel => exact ⟨k + 1, S ++ ⟨#[92, 110]⟩, by omega, by omega, by go_num, rfl, by rw [HS.out]; exact escAt_more 1 (by omega) HLL.out HLX.out HO2.out, hb'⟩
        case measure => simp [intOf]; omega
      · go_wp2_with (
          at_builtin
          refine wpList_append_blk rfl (.tmp 55) (.tmp 56) _ _ 1 8 rfl intE w wr w.heap.size hbw hz' ((Below.refl wr.heap.size wr).alloc (Nat.le_refl _) _) u7 (escW l).length (intCells (escW l)) rfl HO.out _ 1 (intCells [127]) rfl (Blk.new' (intCells [127]) _ (by simp)) rfl (intCells_one _) (by unfold maxLen; omega) (by omega) ?_
          intro v' W' ho' hb' hg' hlt'
          have HO2 := Lib.hid (own_snoc (ys := [127]) ho')
          clear ho')
        go_roundw
        case rel => exact ⟨k + 1, S ++ ⟨#[92, 120, 55, 102]⟩, by omega, by omega, by go_num, rfl, by rw [HS.out]; exact escAt_more 2 (by omega) HLL.out HLX.out HO2.out, hb'⟩
        case measure => simp [intOf]; omega
      · go_wp2_with (
          at_builtin
          refine wpList_append_blk rfl (.tmp 62) (.tmp 63) _ _ 1 8 rfl intE w wr w.heap.size hbw hz' ((Below.refl wr.heap.size wr).alloc (Nat.le_refl _) _) u7 (escW l).length (intCells (escW l)) rfl HO.out _ 1 (intCells [233]) rfl (Blk.new' (intCells [233]) _ (by simp)) rfl (intCells_one _) (by unfold maxLen; omega) (by omega) ?_
          intro v' W' ho' hb' hg' hlt'
          have HO2 := Lib.hid (own_snoc (ys := [233]) ho')
          clear ho')
        go_roundw
        case rel => exact ⟨k + 1, S ++ ⟨#[92, 117, 48, 48, 69, 57]⟩, by omega, by omega, by go_num, rfl, by rw [HS.out]; exact escAt_more 3 (by omega) HLL.out HLX.out HO2.out, hb'⟩
        case measure => simp [intOf]; omega
      · go_wp2_with (
          at_builtin
          refine wpList_append_blk rfl (.tmp 69) (.tmp 70) _ _ 1 8 rfl intE w wr w.heap.size hbw hz' ((Below.refl wr.heap.size wr).alloc (Nat.le_refl _) _) u7 (escW l).length (intCells (escW l)) rfl HO.out _ 2 (intCells [55357, 56832]) rfl (Blk.new' (intCells [55357, 56832]) _ (by simp)) rfl (intCells_one _) (by unfold maxLen; omega) (by omega) ?_
          intro v' W' ho' hb' hg' hlt'
          have HO2 := Lib.hid (own_snoc (ys := [55357, 56832]) ho')
          clear ho')
        go_roundw
        case rel => exact ⟨k + 1, S ++ ⟨#[92, 117, 123, 49, 70, 54, 48, 48, 125]⟩, by omega, by omega, by go_num, rfl, by rw [HS.out]; exact escAt_more 4 (by omega) HLL.out HLX.out HO2.out, hb'⟩
        case measure => simp [intOf]; omega
      · go_wp2_with (
          at_builtin
          refine wpList_append_blk rfl (.tmp 76) (.tmp 77) _ _ 1 8 rfl intE w wr w.heap.size hbw hz' ((Below.refl wr.heap.size wr).alloc (Nat.le_refl _) _) u7 (escW l).length (intCells (escW l)) rfl HO.out _ 2 (intCells [55357, 56832]) rfl (Blk.new' (intCells [55357, 56832]) _ (by simp)) rfl (intCells_one _) (by unfold maxLen; omega) (by omega) ?_
          intro v' W' ho' hb' hg' hlt'
          have HO2 := Lib.hid (own_snoc (ys := [55357, 56832]) ho')
          clear ho')
        go_roundw
        case rel => exact ⟨k + 1, S ++ ⟨#[240, 159, 152, 128]⟩, by omega, by omega, by go_num, rfl, by rw [HS.out]; exact escAt_more 5 (by omega) HLL.out HLX.out HO2.out, hb'⟩
        case measure => simp [intOf]; omega
      · go_wp2_with fail
        go_roundw
        case rel => exact ⟨k + 1, S ++ ⟨#[92, 10]⟩, by omega, by omega, by go_num, rfl, by rw [HS.out]; exact escAt_more 6 (by omega) HLL.out HLX.out (by rw [show escUnits 6 = [] from rfl, List.append_nil]; exact HO.out), hbw⟩
        case measure => simp [intOf]; omega
      · go_wp2_with (
          at_builtin
          refine wpList_append_blk rfl (.tmp 87) (.tmp 88) _ _ 1 8 rfl intE w wr w.heap.size hbw hz' ((Below.refl wr.heap.size wr).alloc (Nat.le_refl _) _) u7 (escW l).length (intCells (escW l)) rfl HO.out _ 1 (intCells [39]) rfl (Blk.new' (intCells [39]) _ (by simp)) rfl (intCells_one _) (by unfold maxLen; omega) (by omega) ?_
          intro v' W' ho' hb' hg' hlt'
          have HO2 := Lib.hid (own_snoc (ys := [39]) ho')
          clear ho')
        go_roundw
        case rel => exact ⟨k + 1, S ++ ⟨#[92, 39]⟩, by omega, by omega, by go_num, rfl, by rw [HS.out]; exact escAt_more 7 (by omega) HLL.out HLX.out HO2.out, hb'⟩
        case measure => simp [intOf]; omega
      · go_wp2_with (
          at_builtin
          refine wpList_append_blk rfl (.tmp 94) (.tmp 95) _ _ 1 8 rfl intE w wr w.heap.size hbw hz' ((Below.refl wr.heap.size wr).alloc (Nat.le_refl _) _) u7 (escW l).length (intCells (escW l)) rfl HO.out _ 1 (intCells [34]) rfl (Blk.new' (intCells [34]) _ (by simp)) rfl (intCells_one _) (by unfold maxLen; omega) (by omega) ?_
          intro v' W' ho' hb' hg' hlt'
          have HO2 := Lib.hid (own_snoc (ys := [34]) ho')
          clear ho')
        go_roundw
        case rel => exact ⟨k + 1, S ++ ⟨#[92, 34]⟩, by omega, by omega, by go_num, rfl, by rw [HS.out]; exact escAt_more 8 (by omega) HLL.out HLX.out HO2.out, hb'⟩
        case measure => simp [intOf]; omega
      · go_wp2_with (
          at_builtin
          refine wpList_append_blk rfl (.tmp 101) (.tmp 102) _ _ 1 8 rfl intE w wr w.heap.size hbw hz' ((Below.refl wr.heap.size wr).alloc (Nat.le_refl _) _) u7 (escW l).length (intCells (escW l)) rfl HO.out _ 1 (intCells [113]) rfl (Blk.new' (intCells [113]) _ (by simp)) rfl (intCells_one _) (by unfold maxLen; omega) (by omega) ?_
          intro v' W' ho' hb' hg' hlt'
          have HO2 := Lib.hid (own_snoc (ys := [113]) ho')
          clear ho')
        go_roundw
        case rel => exact ⟨k + 1, S ++ ⟨#[92, 113]⟩, by omega, by omega, by go_num, rfl, by rw [HS.out]; exact escAt_more 9 (by omega) HLL.out HLX.out HO2.out, hb'⟩
        case measure => simp [intOf]; omega
      · go_wp2_with (
          at_builtin
          refine wpList_append_blk rfl (.tmp 108) (.tmp 109) _ _ 1 8 rfl intE w wr w.heap.size hbw hz' ((Below.refl wr.heap.size wr).alloc (Nat.le_refl _) _) u7 (escW l).length (intCells (escW l)) rfl HO.out _ 2 (intCells [0, 122]) rfl (Blk.new' (intCells [0, 122]) _ (by simp)) rfl (intCells_one _) (by unfold maxLen; omega) (by omega) ?_
          intro v' W' ho' hb' hg' hlt'
          have HO2 := Lib.hid (own_snoc (ys := [0, 122]) ho')
          clear ho')
        go_roundw
        case rel => exact ⟨k + 1, S ++ ⟨#[92, 48, 122]⟩, by omega, by omega, by go_num, rfl, by rw [HS.out]; exact escAt_more 10 (by omega) HLL.out HLX.out HO2.out, hb'⟩
        case measure => simp [intOf]; omega
      · go_wp2_with (
          at_builtin
          refine wpList_append_blk rfl (.tmp 34) (.tmp 35) _ _ 1 8 rfl intE w wr w.heap.size hbw hz' ((Below.refl wr.heap.size wr).alloc (Nat.le_refl _) _) u7 (escW l).length (intCells (escW l)) rfl HO.out _ 1 (intCells [8232]) rfl (Blk.new' (intCells [8232]) _ (by simp)) rfl (intCells_one _) (by unfold maxLen; omega) (by omega) ?_
          intro v' W' ho' hb' hg' hlt'
          have HO2 := Lib.hid (own_snoc (ys := [8232]) ho')
          clear ho')
        go_roundw
        case rel => exact ⟨k + 1, S ++ ⟨#[226, 128, 168]⟩, by omega, by omega, by go_num, rfl, by rw [HS.out]; exact escAt_more 11 (by omega) HLL.out HLX.out HO2.out, hb'⟩
        case measure => simp [intOf]; omega
    · have hex : k < zs.length → ¬ k < 40 := fun h1 h2 => hlt ⟨h1, h2⟩
      have hdone : ¬ k < zs.length ∨ (k < zs.length ∧ ¬ k < 40) := by
        by_cases h : k < zs.length
        · exact Or.inr ⟨h, hex h⟩
        · exact Or.inl h
      obtain ⟨⟨ps, hps, hfl⟩, hsz⟩ := escS_parts 34 (by decide) l hlx
      rw [← hS] at hps hsz
      have HW := Lib.hid hown
      have HC := Lib.hid (code_ok2 hps)
      have HPS := Lib.hid hps
      have HFL := Lib.hid hfl
      have HLEN := Lib.hid (escW_len l)
      have HQZ : Hid ((wrapQ 34 S).size ≤ 1000) := Lib.hid (by rw [wrap_size]; omega)
      have hS5 : S.size ≤ 400 := by omega
      have hl40 : l.length ≤ 40 := by omega
      clear hown hex hlt hps hfl hS hlx hll hsz
      rcases hdone with hdone | ⟨hd1, hdone⟩
      all_goals
        go_wp2_with fail
        refine (units_any (wrapQ 34 S) wr (by have := HQZ.out; omega) (HT.out.below hbw)).mono ?_
        rintro e w2 ⟨hu1, hw2⟩
        obtain ⟨v1, us1, rfl, ho1, hl1, hbd1, he1⟩ := unitsOut_row hu1
        have hus : us1 = escW l := by rw [he1, HPS.out]; exact HFL.out
        subst hus
        rw [HC.out]
        have HW2 := Lib.hid (hbw.call hw2)
        have HO1 := Lib.hid ho1
        have HOW := Lib.hid (own_below HW.out hw2)
        clear hu1 hw2 ho1 he1 hbd1 hl1
        go_wp2_with (go_at_call 12; refine (num_any _ _).mono ?_; rintro e w9 ⟨rfl, rfl⟩)
        refine (sameInts_any (escW l) (escW l) v1 u7 w2 (by have := HLEN.out; omega) (by have := HLEN.out; omega) (.of_own HO1.out) (.of_own HOW.out)).mono ?_
        rintro e w3 ⟨rfl, hw3⟩
        rw [show (escW l == escW l) = true by simp]
        have HW3 := Lib.hid (HW2.out.call hw3)
        clear hw3
        go_wp2_with fail
        go_ret
        exact ⟨rfl, HW3.out⟩
theorem strEscapes_call (v : Value) (zs : List Int) (b : Bool) (w : World) (hv : IntsIn w w.heap.size v zs) (hwf : ∀ n ∈ zs, (Lit.int .i64 n).wf = true) (hm : zs.length ≤ maxLen) (hT : Tabs w) :
    Calls Tryd.prog 8 #[v, .bool b] w fun e w' => e = .returned (.bool true) ∧ Below w.heap.size w w' := by
  cases b
  · exact strEscapes_false v zs w hv hm hT
  · exact strEscapes_true v zs w hv hm hT

/-- What the walk gives, for every argument. -/
theorem strEscapes_contract (H : Type) (enc : TypeId × Value → H) (W : World) (base : Nat) (args : Array Value) (ds gs : List (DataW H)) (before : List MemPlace)
    (hval : ∀ (j : Nat) t v, Tryd.f8.params[j]? = some t → args[j]? = some v → Value.okWide Tryd.prog W .any base t v)
    (hW : DataW.Whole enc Tryd.prog Tryd.f8.params.toList Rows.strEscapesSpec.vars false W args.toList ds gs before)
    (hsz : (DataW.weightsEach Tryd.prog (Tryd.f8.params.toList ++ Rows.strEscapesSpec.plain.varTypes Tryd.prog) (ds ++ gs)).all (· ≤ reachBytes) = true) (hT : Tabs W) :
    Calls Tryd.prog 8 args W fun e W' => ∃ v, e = .returned v ∧ Rows.strEscapesSpec.post enc Tryd.prog Tryd.f8 false true false false W args v W' := by
  have hW' := hW
  obtain ⟨p, q, hA0, hV, rfl, hfz, hnd⟩ := hW
  have hA : DataW.TrodAll enc Tryd.prog W 0 (fun _ => true) true Tryd.f8.params.toList args.toList ds p := hA0
  rw [Tryd.params8] at hA hval hsz
  obtain ⟨v0, vs0, d0, ds0, p0, q0, hargs, rfl, rfl, h0, r0⟩ := trodAll_cons hA
  obtain ⟨v1, vs1, d1, ds1, p1, q1, rfl, rfl, rfl, h1, r1⟩ := trodAll_cons r0
  obtain ⟨rfl, rfl, rfl⟩ := trodAll_nil r1
  obtain rfl : args = #[v0, v1] := by cases args; simp_all
  obtain ⟨rfl, rfl⟩ := trodVars_none hV
  have hlt := fun x hx => hW'.lt x hx
  obtain ⟨z0, i0, w0, m0⟩ := ints_open Tryd.underlying30 Tryd.underlying3 (by kernel_rfl) (hval 0 30 v0 rfl rfl) h0
  obtain ⟨a1, rfl, rfl, rfl⟩ := open_bool Tryd.underlying4 (hval 1 4 v1 rfl rfl) h1
  clear hA0 hval
  refine (strEscapes_call v0 z0 a1 W i0 w0 m0 hT).mono fun e W' ⟨he, hb⟩ => ?_
  subst he
  exact ⟨_, rfl, law_post_any (pv := []) Tryd.underlying4 (by kernel_rfl) hW' rfl (trodAll_cons_mk (Below.trod laidOut (by kernel_rfl) (of_decide_eq_true (by kernel_rfl)) h0 hb (fun x hx => hlt x (by simp [hx]))) (trodAll_cons_mk (shut_bool Tryd.underlying4 _) trodAll_mk0)) rfl hb⟩

theorem strEscapes_reads (os : Os) {H : Type} (enc : TypeId × Value → H) : ∃ places, DataW.whole enc Tryd.prog ((laidWorld os).forCall (fun _ _ => 0) ⟨#[], #[.slice none 0 0, .bool false], []⟩).memory Tryd.f8.params.toList Rows.strEscapesSpec.vars false (#[.slice none 0 0, .bool false] : Array Value).toList 8 = some ([.nil, .lit (.bool false)], [], places) :=
  ⟨[], by kernel_rfl⟩
theorem strEscapes_lifted (os : Os) (started : os.Started) (H : Type) (enc : TypeId × Value → H) (F : Stop.Interp) :
    ReturnsInHanded {} Tryd.checked os 8 .any ((OpenSpec.ofChange Rows.strEscapesSpec).preRow enc Tryd.prog Tryd.f8 Rows.strEscapesRow.domain false Rows.strEscapesRow.laid) (((OpenSpec.ofChange Rows.strEscapesSpec).at F).post enc Tryd.prog Tryd.f8 false true false false) := by
  obtain ⟨places, hx⟩ := strEscapes_reads os enc
  refine returnsInHanded_of_row (C := Tryd.checked) (s := (OpenSpec.ofChange Rows.strEscapesSpec)) ownKnob_none started (by kernel_rfl) Tryd.func8
    (witness_row_at (enc := enc) (C := Tryd.checked) false (laidWorld os) #[.slice none 0 0, .bool false] rfl (by kernel_rfl) (by kernel_rfl) (by kernel_rfl)
      (OpenSpec.preRow_of_cond 8 hx (by kernel_rfl) (fun k hk => by cases hk) (by kernel_rfl) (laid_met os _))) ?_
  intro W base args ds gs before hval hW _ _ hsz hL _ _
  exact strEscapes_contract H enc W base args ds gs before hval hW hsz (tabs_of_laid hL)
theorem strEscapes_said : Rows.StrEscapesSaid :=
  OpenClaim.holds_of_cond 8 Tryd.f8 rfl rfl rfl rfl rfl rfl rfl ⟨rfl, rfl, rfl, rfl, rfl⟩ rfl rfl rfl rfl rfl (by kernel_rfl) Tryd.func8 (by kernel_rfl)
    (of_decide_eq_true (by kernel_rfl)) (by unfold Func.isWrapper; first | (rw [if_pos (by decide +kernel)]; kernel_rfl) | (rw [if_neg (by decide +kernel)]; exact ⟨rfl, rfl⟩))
    (fun os started H enc _ F => by rw [OpenClaim.pre_eq_preRow]; exact strEscapes_lifted os started H enc F)
theorem strEscapes_plain (f : FuncId) (fn : Func) (hf : Tryd.pinned.checked.prog.funcNamed Rows.strEscapesRow.func = some f) (hfn : Tryd.pinned.checked.prog.funcs[f]? = some fn) :
    false = Tryd.pinned.checked.prog.looks [] ∧ ∀ (j : Nat) t, fn.params[j]? = some t → Tryd.pinned.checked.prog.wantsStandIn t = false := by
  obtain rfl : f = 8 := Option.some.inj ((show Tryd.prog.funcNamed Rows.strEscapesRow.func = some 8 by kernel_rfl).symm.trans hf) |>.symm
  obtain rfl : fn = Tryd.f8 := (Option.some.inj (Tryd.func8.symm.trans hfn)).symm
  refine ⟨by kernel_rfl, fun j t ht => ?_⟩
  rw [Tryd.params8] at ht
  have hm := Array.mem_of_getElem? ht
  have hall : ∀ t ∈ (#[30, 4] : Array TypeId), Tryd.prog.wantsStandIn t = false := by
    intro t ht
    simp only [List.mem_toArray, List.mem_cons, List.mem_nil_iff, or_false] at ht
    rcases ht with rfl | rfl
    all_goals kernel_rfl
  exact hall t hm

/-- THE CARD. -/
theorem strEscapes_card : Rows.StrEscapesCardSaid :=
  Claim7.holds_tied_plain_at .later [] _ _ _ _ strEscapes_said (fun _ h => by cases h) (by kernel_rfl) (fun _ h => by cases h) strEscapes_row_tie rfl ⟨rfl, rfl⟩ (by kernel_rfl) rfl strEscapes_plain (by kernel_rfl)
#print axioms strEscapes_card
end Go.Proofs.YtcjnlbelgmcpeaaDoor
