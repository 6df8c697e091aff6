/- WHAT IS PROVED: StrChosen holds for every slice of ints and every choice of quotes: the quotes are those that are asked, but where more of them stand inside than of the others. Condition: the listed tables of the library's decoder read as its text lays them (the card ties them). -/
import Derived.Test.YtcjnlbelgmcpeaaDoorLawStrUnits
import Derived.Test.YtcjnlbelgmcpeaaDoorStrPickPlain
import Derived.Test.YtcjnlbelgmcpeaaDoorArgs
namespace Go.Proofs.YtcjnlbelgmcpeaaDoor
open Go.RowKit Go.ChangeShapes Go.WideShapes Go.ChangeAt
open Go.ChangeMaps (open_string shut_string)
set_option maxRecDepth 100000
set_option linter.unusedVariables false
set_option linter.unusedSimpArgs false

theorem laidOut : laidOutB Tryd.prog = true := by kernel_rfl
theorem u64_nat (a : Int) : ∃ u : Nat, IntKind.u64.wrap a = (u : Int) := by
  refine ⟨(IntKind.u64.wrap a).toNat, ?_⟩
  rw [IntKind.wrap_u64]
  omega
theorem code_ok2 {s : ByteArray} {ps : List Pt} (h : partsB s = .ok ps) : checkCode s = 0 := by unfold checkCode; rw [h]

/-- What a round leaves. -/
def ChAt (k : Nat) (S : ByteArray) (n m : Int) : Prop := ∃ l : List Nat, l.length = k ∧ (∀ x ∈ l, x < 3) ∧ S = chS l ∧ n = (cntN l 0 : Nat) ∧ m = (cntN l 1 : Nat)
theorem chAt_more {k : Nat} {l : List Nat} {n m n' m' : Int} (r : Nat) (hr : r < 3) (hl : l.length = k) (hx : ∀ x ∈ l, x < 3) (hn : n' = (cntN l 0 : Nat) + if r = 0 then 1 else 0) (hm : m' = (cntN l 1 : Nat) + if r = 1 then 1 else 0) :
    ChAt (k + 1) (chS l ++ ⟨(chLit r).toArray⟩) n' m' :=
  ⟨l ++ [r], by simp [hl], fun x h => by rcases List.mem_append.1 h with h | h; exact hx x h; simp at h; omega, (chS_snoc l r).symm, by rw [cntN_snoc, hn]; split <;> simp, by rw [cntN_snoc, hm]; split <;> simp⟩
theorem quote_first {s : ByteArray} {ps : List Pt} {single : Bool} (h : partsB s = .ok ps) : ∃ h0 : 0 < (quoteS s single).size, ((quoteS s single)[0]'h0).toNat = pickQ s ps single := by
  have e : quoteS s single = ⟨(quoteB s ps single).toArray⟩ := by unfold quoteS; rw [h]
  have hz : (quoteS s single).size = (quoteB s ps single).length := by rw [e, size_list]
  have hp : 0 < (quoteS s single).size := by rw [hz]; unfold quoteB; simp
  refine ⟨hp, ?_⟩
  rw [byt_eq, byt_list, e]
  unfold quoteB
  simp only [List.getElem?_cons_zero, Option.getD_some]
  exact toU8 _ (pickQ_two s ps single)

set_option maxHeartbeats 16000000 in
theorem strChosen_true_true (v : Value) (zs : List Int) (w : World) (hv : IntsIn w w.heap.size v zs) (hm : zs.length ≤ maxLen) (hT : Tabs w) :
    Calls Tryd.prog 9 #[v, .bool true, .bool true] w fun e w' => e = .returned (.bool true) ∧ Below w.heap.size w w' := by
  have hm9 : zs.length ≤ 9223372036854775807 := by unfold maxLen at hm; omega
  clear hm
  obtain ⟨A, c, rfl⟩ := hv.len
  have HT := Lib.hid hT
  have HV := Lib.hid hv
  clear hT hv
  go_enter Tryd.func9, Tryd.ntmps9
  go_wp2_with (go_at_call 13; refine (awake_any _ HT.out).mono ?_; rintro e w1 ⟨rfl, hb1⟩)
  go_loopw [7, 8, 9, 10] (fun s n m i wr => ∃ (k : Nat) (S : ByteArray) (N M : Int), k ≤ zs.length ∧ k ≤ 40 ∧ i = .int .i64 (k : Int) ∧ s = .string S ∧ n = .int .i64 N ∧ m = .int .i64 M ∧ (0 ≤ N ∧ N ≤ k ∧ 0 ≤ M ∧ M ≤ k) ∧ ChAt k S N M ∧ Below w.heap.size w wr) (fun _ _ _ i _ => 40 - (intOf i).toNat)
  case atStart => exact ⟨0, ⟨#[]⟩, 0, 0, Nat.zero_le _, by omega, rfl, rfl, rfl, rfl, by omega, ⟨[], rfl, by simp, rfl, rfl, rfl⟩, hb1⟩
  case round =>
    obtain ⟨k, S, N, M, hk, hk40, rfl, rfl, rfl, rfl, ⟨hN0, hNk, hM0, hMk⟩, hat, hbw⟩ := hrel
    obtain ⟨l, hll, hlx, hS, hN, hM⟩ := hat
    have hz' := hbw.size
    by_cases hlt : k < zs.length ∧ k < 40
    · obtain ⟨hlt1, hlt2⟩ := hlt
      rcases HV.out.below hbw (Nat.le_refl _) with ⟨A', c', e, hz⟩ | ⟨b, off, c', e, hltb, hpos, hc⟩
      · rw [hz] at hlt1; simp at hlt1
      injection e with e1 _ e3
      subst e1
      subst e3
      have c0 := hc k hlt1
      generalize hz0e : zs.getD k 0 = z at c0
      obtain ⟨u, hu⟩ := u64_nat z
      have hS4 := (chS_parts 39 (by decide) l hlx).2
      rw [← hS] at hS4
      have hS5 : S.size ≤ 400 := by omega
      have HLX := Lib.hid hlx
      have HLL := Lib.hid hll
      have HS := Lib.hid hS
      have HN := Lib.hid hN
      have HM := Lib.hid hM
      clear hc hz0e hm9 hlx hll hS hN hM hS4
      have hk1 : (k : Int) < (zs.length : Int) := by omega
      have hk2 : (k : Int) < 40 := by omega
      have hr3 : (u : Int) % 3 = 0 ∨ (u : Int) % 3 = 1 ∨ (u : Int) % 3 = 2 := by omega
      rcases hr3 with hr | hr | hr
      · go_wp2_with fail
        go_roundw
        case rel => exact ⟨k + 1, S ++ ⟨#[92, 39]⟩, N + 1, M, by omega, by omega, by go_num, rfl, rfl, rfl, by omega, by rw [HS.out]; exact chAt_more (n := N) (m := M) 0 (by omega) HLL.out HLX.out (by rw [HN.out]; rfl) (by rw [HM.out]; rfl), hbw⟩
        case measure => simp [intOf]; omega
      · go_wp2_with fail
        go_roundw
        case rel => exact ⟨k + 1, S ++ ⟨#[92, 34]⟩, N, M + 1, by omega, by omega, by go_num, rfl, rfl, rfl, by omega, by rw [HS.out]; exact chAt_more (n := N) (m := M) 1 (by omega) HLL.out HLX.out (by rw [HN.out]; rfl) (by rw [HM.out]; rfl), hbw⟩
        case measure => simp [intOf]; omega
      · go_wp2_with fail
        go_roundw
        case rel => exact ⟨k + 1, S ++ ⟨#[97]⟩, N, M, by omega, by omega, by go_num, rfl, rfl, rfl, by omega, by rw [HS.out]; exact chAt_more (n := N) (m := M) 2 (by omega) HLL.out HLX.out (by rw [HN.out]; rfl) (by rw [HM.out]; rfl), hbw⟩
        case measure => simp [intOf]; omega
    · have hex : k < zs.length → ¬ k < 40 := fun h1 h2 => hlt ⟨h1, h2⟩
      have hdone : ¬ k < zs.length ∨ (k < zs.length ∧ ¬ k < 40) := by
        by_cases h : k < zs.length
        · exact Or.inr ⟨h, hex h⟩
        · exact Or.inl h
      obtain ⟨⟨ps, hps, hpk⟩, hsz⟩ := chS_parts 39 (by decide) l hlx
      have hpk2 := hpk true
      clear hpk
      rw [← hS] at hps hsz hpk2
      obtain ⟨h0, hfst⟩ := quote_first (single := true) hps
      rw [hpk2] at hfst
      have HFST : Hid (((quoteS (wrapQ 39 S) true)[0]'h0).toNat = (if M < N then 34 else 39)) := Lib.hid (by rw [hfst]; simp [hN, hM])
      have HC := Lib.hid (code_ok2 hps)
      have HQZ : Hid ((wrapQ 39 S).size ≤ 1000) := Lib.hid (by rw [wrap_size]; omega)
      have hS5 : S.size ≤ 400 := by omega
      have HQ := Lib.hid (fun (W : World) (hTW : Tabs W) => quote_any (wrapQ 39 S) true W (by have := HQZ.out; omega) hTW)
      rw [HC.out] at HQ
      generalize quoteS (wrapQ 39 S) true = t at *
      clear hex hlt hps hS hlx hll hsz hfst hpk2 hN hM
      have hmn : M < N ∨ N < M ∨ M = N := by omega
      rcases hmn with hmn | hmn | rfl
      all_goals
        have hf := HFST.out
        first | (rw [if_pos (by omega)] at hf) | (rw [if_neg (by omega)] at hf)
        have hfi : (((t[0]'h0).toNat : Nat) : Int) = _ := congrArg Nat.cast hf
        have HFI := Lib.hid hfi
        have h0i : 0 < (t.size : Int) := by omega
        clear hf hfi
        rcases hdone with hdone | ⟨hd1, hdone⟩
        all_goals
          go_wp2_with fail
          refine (HQ.out wr (HT.out.below hbw)).mono ?_
          rintro e w2 ⟨rfl, hw2⟩
          have HW2 := Lib.hid (hbw.call hw2)
          have hfi := HFI.out
          clear hw2
          go_wp2_with (go_at_call 12; refine (num_any _ _).mono ?_; rintro e w9 ⟨rfl, rfl⟩)
          go_ret
          exact ⟨rfl, HW2.out⟩

set_option maxHeartbeats 16000000 in
theorem strChosen_true_false (v : Value) (zs : List Int) (w : World) (hv : IntsIn w w.heap.size v zs) (hm : zs.length ≤ maxLen) (hT : Tabs w) :
    Calls Tryd.prog 9 #[v, .bool true, .bool false] w fun e w' => e = .returned (.bool true) ∧ Below w.heap.size w w' := by
  have hm9 : zs.length ≤ 9223372036854775807 := by unfold maxLen at hm; omega
  clear hm
  obtain ⟨A, c, rfl⟩ := hv.len
  have HT := Lib.hid hT
  have HV := Lib.hid hv
  clear hT hv
  go_enter Tryd.func9, Tryd.ntmps9
  go_wp2_with (go_at_call 13; refine (awake_any _ HT.out).mono ?_; rintro e w1 ⟨rfl, hb1⟩)
  go_loopw [7, 8, 9, 10] (fun s n m i wr => ∃ (k : Nat) (S : ByteArray) (N M : Int), k ≤ zs.length ∧ k ≤ 40 ∧ i = .int .i64 (k : Int) ∧ s = .string S ∧ n = .int .i64 N ∧ m = .int .i64 M ∧ (0 ≤ N ∧ N ≤ k ∧ 0 ≤ M ∧ M ≤ k) ∧ ChAt k S N M ∧ Below w.heap.size w wr) (fun _ _ _ i _ => 40 - (intOf i).toNat)
  case atStart => exact ⟨0, ⟨#[]⟩, 0, 0, Nat.zero_le _, by omega, rfl, rfl, rfl, rfl, by omega, ⟨[], rfl, by simp, rfl, rfl, rfl⟩, hb1⟩
  case round =>
    obtain ⟨k, S, N, M, hk, hk40, rfl, rfl, rfl, rfl, ⟨hN0, hNk, hM0, hMk⟩, hat, hbw⟩ := hrel
    obtain ⟨l, hll, hlx, hS, hN, hM⟩ := hat
    have hz' := hbw.size
    by_cases hlt : k < zs.length ∧ k < 40
    · obtain ⟨hlt1, hlt2⟩ := hlt
      rcases HV.out.below hbw (Nat.le_refl _) with ⟨A', c', e, hz⟩ | ⟨b, off, c', e, hltb, hpos, hc⟩
      · rw [hz] at hlt1; simp at hlt1
      injection e with e1 _ e3
      subst e1
      subst e3
      have c0 := hc k hlt1
      generalize hz0e : zs.getD k 0 = z at c0
      obtain ⟨u, hu⟩ := u64_nat z
      have hS4 := (chS_parts 39 (by decide) l hlx).2
      rw [← hS] at hS4
      have hS5 : S.size ≤ 400 := by omega
      have HLX := Lib.hid hlx
      have HLL := Lib.hid hll
      have HS := Lib.hid hS
      have HN := Lib.hid hN
      have HM := Lib.hid hM
      clear hc hz0e hm9 hlx hll hS hN hM hS4
      have hk1 : (k : Int) < (zs.length : Int) := by omega
      have hk2 : (k : Int) < 40 := by omega
      have hr3 : (u : Int) % 3 = 0 ∨ (u : Int) % 3 = 1 ∨ (u : Int) % 3 = 2 := by omega
      rcases hr3 with hr | hr | hr
      · go_wp2_with fail
        go_roundw
        case rel => exact ⟨k + 1, S ++ ⟨#[92, 39]⟩, N + 1, M, by omega, by omega, by go_num, rfl, rfl, rfl, by omega, by rw [HS.out]; exact chAt_more (n := N) (m := M) 0 (by omega) HLL.out HLX.out (by rw [HN.out]; rfl) (by rw [HM.out]; rfl), hbw⟩
        case measure => simp [intOf]; omega
      · go_wp2_with fail
        go_roundw
        case rel => exact ⟨k + 1, S ++ ⟨#[92, 34]⟩, N, M + 1, by omega, by omega, by go_num, rfl, rfl, rfl, by omega, by rw [HS.out]; exact chAt_more (n := N) (m := M) 1 (by omega) HLL.out HLX.out (by rw [HN.out]; rfl) (by rw [HM.out]; rfl), hbw⟩
        case measure => simp [intOf]; omega
      · go_wp2_with fail
        go_roundw
        case rel => exact ⟨k + 1, S ++ ⟨#[97]⟩, N, M, by omega, by omega, by go_num, rfl, rfl, rfl, by omega, by rw [HS.out]; exact chAt_more (n := N) (m := M) 2 (by omega) HLL.out HLX.out (by rw [HN.out]; rfl) (by rw [HM.out]; rfl), hbw⟩
        case measure => simp [intOf]; omega
    · have hex : k < zs.length → ¬ k < 40 := fun h1 h2 => hlt ⟨h1, h2⟩
      have hdone : ¬ k < zs.length ∨ (k < zs.length ∧ ¬ k < 40) := by
        by_cases h : k < zs.length
        · exact Or.inr ⟨h, hex h⟩
        · exact Or.inl h
      obtain ⟨⟨ps, hps, hpk⟩, hsz⟩ := chS_parts 39 (by decide) l hlx
      have hpk2 := hpk false
      clear hpk
      rw [← hS] at hps hsz hpk2
      obtain ⟨h0, hfst⟩ := quote_first (single := false) hps
      rw [hpk2] at hfst
      have HFST : Hid (((quoteS (wrapQ 39 S) false)[0]'h0).toNat = (if N < M then 39 else 34)) := Lib.hid (by rw [hfst]; simp [hN, hM])
      have HC := Lib.hid (code_ok2 hps)
      have HQZ : Hid ((wrapQ 39 S).size ≤ 1000) := Lib.hid (by rw [wrap_size]; omega)
      have hS5 : S.size ≤ 400 := by omega
      have HQ := Lib.hid (fun (W : World) (hTW : Tabs W) => quote_any (wrapQ 39 S) false W (by have := HQZ.out; omega) hTW)
      rw [HC.out] at HQ
      generalize quoteS (wrapQ 39 S) false = t at *
      clear hex hlt hps hS hlx hll hsz hfst hpk2 hN hM
      have hmn : M < N ∨ N < M ∨ M = N := by omega
      rcases hmn with hmn | hmn | rfl
      all_goals
        have hf := HFST.out
        first | (rw [if_pos (by omega)] at hf) | (rw [if_neg (by omega)] at hf)
        have hfi : (((t[0]'h0).toNat : Nat) : Int) = _ := congrArg Nat.cast hf
        have HFI := Lib.hid hfi
        have h0i : 0 < (t.size : Int) := by omega
        clear hf hfi
        rcases hdone with hdone | ⟨hd1, hdone⟩
        all_goals
          go_wp2_with fail
          refine (HQ.out wr (HT.out.below hbw)).mono ?_
          rintro e w2 ⟨rfl, hw2⟩
          have HW2 := Lib.hid (hbw.call hw2)
          have hfi := HFI.out
          clear hw2
          go_wp2_with (go_at_call 12; refine (num_any _ _).mono ?_; rintro e w9 ⟨rfl, rfl⟩)
          go_ret
          exact ⟨rfl, HW2.out⟩

set_option maxHeartbeats 16000000 in
theorem strChosen_false_true (v : Value) (zs : List Int) (w : World) (hv : IntsIn w w.heap.size v zs) (hm : zs.length ≤ maxLen) (hT : Tabs w) :
    Calls Tryd.prog 9 #[v, .bool false, .bool true] w fun e w' => e = .returned (.bool true) ∧ Below w.heap.size w w' := by
  have hm9 : zs.length ≤ 9223372036854775807 := by unfold maxLen at hm; omega
  clear hm
  obtain ⟨A, c, rfl⟩ := hv.len
  have HT := Lib.hid hT
  have HV := Lib.hid hv
  clear hT hv
  go_enter Tryd.func9, Tryd.ntmps9
  go_wp2_with (go_at_call 13; refine (awake_any _ HT.out).mono ?_; rintro e w1 ⟨rfl, hb1⟩)
  go_loopw [7, 8, 9, 10] (fun s n m i wr => ∃ (k : Nat) (S : ByteArray) (N M : Int), k ≤ zs.length ∧ k ≤ 40 ∧ i = .int .i64 (k : Int) ∧ s = .string S ∧ n = .int .i64 N ∧ m = .int .i64 M ∧ (0 ≤ N ∧ N ≤ k ∧ 0 ≤ M ∧ M ≤ k) ∧ ChAt k S N M ∧ Below w.heap.size w wr) (fun _ _ _ i _ => 40 - (intOf i).toNat)
  case atStart => exact ⟨0, ⟨#[]⟩, 0, 0, Nat.zero_le _, by omega, rfl, rfl, rfl, rfl, by omega, ⟨[], rfl, by simp, rfl, rfl, rfl⟩, hb1⟩
  case round =>
    obtain ⟨k, S, N, M, hk, hk40, rfl, rfl, rfl, rfl, ⟨hN0, hNk, hM0, hMk⟩, hat, hbw⟩ := hrel
    obtain ⟨l, hll, hlx, hS, hN, hM⟩ := hat
    have hz' := hbw.size
    by_cases hlt : k < zs.length ∧ k < 40
    · obtain ⟨hlt1, hlt2⟩ := hlt
      rcases HV.out.below hbw (Nat.le_refl _) with ⟨A', c', e, hz⟩ | ⟨b, off, c', e, hltb, hpos, hc⟩
      · rw [hz] at hlt1; simp at hlt1
      injection e with e1 _ e3
      subst e1
      subst e3
      have c0 := hc k hlt1
      generalize hz0e : zs.getD k 0 = z at c0
      obtain ⟨u, hu⟩ := u64_nat z
      have hS4 := (chS_parts 39 (by decide) l hlx).2
      rw [← hS] at hS4
      have hS5 : S.size ≤ 400 := by omega
      have HLX := Lib.hid hlx
      have HLL := Lib.hid hll
      have HS := Lib.hid hS
      have HN := Lib.hid hN
      have HM := Lib.hid hM
      clear hc hz0e hm9 hlx hll hS hN hM hS4
      have hk1 : (k : Int) < (zs.length : Int) := by omega
      have hk2 : (k : Int) < 40 := by omega
      have hr3 : (u : Int) % 3 = 0 ∨ (u : Int) % 3 = 1 ∨ (u : Int) % 3 = 2 := by omega
      rcases hr3 with hr | hr | hr
      · go_wp2_with fail
        go_roundw
        case rel => exact ⟨k + 1, S ++ ⟨#[92, 39]⟩, N + 1, M, by omega, by omega, by go_num, rfl, rfl, rfl, by omega, by rw [HS.out]; exact chAt_more (n := N) (m := M) 0 (by omega) HLL.out HLX.out (by rw [HN.out]; rfl) (by rw [HM.out]; rfl), hbw⟩
        case measure => simp [intOf]; omega
      · go_wp2_with fail
        go_roundw
        case rel => exact ⟨k + 1, S ++ ⟨#[92, 34]⟩, N, M + 1, by omega, by omega, by go_num, rfl, rfl, rfl, by omega, by rw [HS.out]; exact chAt_more (n := N) (m := M) 1 (by omega) HLL.out HLX.out (by rw [HN.out]; rfl) (by rw [HM.out]; rfl), hbw⟩
        case measure => simp [intOf]; omega
      · go_wp2_with fail
        go_roundw
        case rel => exact ⟨k + 1, S ++ ⟨#[97]⟩, N, M, by omega, by omega, by go_num, rfl, rfl, rfl, by omega, by rw [HS.out]; exact chAt_more (n := N) (m := M) 2 (by omega) HLL.out HLX.out (by rw [HN.out]; rfl) (by rw [HM.out]; rfl), hbw⟩
        case measure => simp [intOf]; omega
    · have hex : k < zs.length → ¬ k < 40 := fun h1 h2 => hlt ⟨h1, h2⟩
      have hdone : ¬ k < zs.length ∨ (k < zs.length ∧ ¬ k < 40) := by
        by_cases h : k < zs.length
        · exact Or.inr ⟨h, hex h⟩
        · exact Or.inl h
      obtain ⟨⟨ps, hps, hpk⟩, hsz⟩ := chS_parts 34 (by decide) l hlx
      have hpk2 := hpk true
      clear hpk
      rw [← hS] at hps hsz hpk2
      obtain ⟨h0, hfst⟩ := quote_first (single := true) hps
      rw [hpk2] at hfst
      have HFST : Hid (((quoteS (wrapQ 34 S) true)[0]'h0).toNat = (if M < N then 34 else 39)) := Lib.hid (by rw [hfst]; simp [hN, hM])
      have HC := Lib.hid (code_ok2 hps)
      have HQZ : Hid ((wrapQ 34 S).size ≤ 1000) := Lib.hid (by rw [wrap_size]; omega)
      have hS5 : S.size ≤ 400 := by omega
      have HQ := Lib.hid (fun (W : World) (hTW : Tabs W) => quote_any (wrapQ 34 S) true W (by have := HQZ.out; omega) hTW)
      rw [HC.out] at HQ
      generalize quoteS (wrapQ 34 S) true = t at *
      clear hex hlt hps hS hlx hll hsz hfst hpk2 hN hM
      have hmn : M < N ∨ N < M ∨ M = N := by omega
      rcases hmn with hmn | hmn | rfl
      all_goals
        have hf := HFST.out
        first | (rw [if_pos (by omega)] at hf) | (rw [if_neg (by omega)] at hf)
        have hfi : (((t[0]'h0).toNat : Nat) : Int) = _ := congrArg Nat.cast hf
        have HFI := Lib.hid hfi
        have h0i : 0 < (t.size : Int) := by omega
        clear hf hfi
        rcases hdone with hdone | ⟨hd1, hdone⟩
        all_goals
          go_wp2_with fail
          refine (HQ.out wr (HT.out.below hbw)).mono ?_
          rintro e w2 ⟨rfl, hw2⟩
          have HW2 := Lib.hid (hbw.call hw2)
          have hfi := HFI.out
          clear hw2
          go_wp2_with (go_at_call 12; refine (num_any _ _).mono ?_; rintro e w9 ⟨rfl, rfl⟩)
          go_ret
          exact ⟨rfl, HW2.out⟩

set_option maxHeartbeats 16000000 in
theorem strChosen_false_false (v : Value) (zs : List Int) (w : World) (hv : IntsIn w w.heap.size v zs) (hm : zs.length ≤ maxLen) (hT : Tabs w) :
    Calls Tryd.prog 9 #[v, .bool false, .bool false] w fun e w' => e = .returned (.bool true) ∧ Below w.heap.size w w' := by
  have hm9 : zs.length ≤ 9223372036854775807 := by unfold maxLen at hm; omega
  clear hm
  obtain ⟨A, c, rfl⟩ := hv.len
  have HT := Lib.hid hT
  have HV := Lib.hid hv
  clear hT hv
  go_enter Tryd.func9, Tryd.ntmps9
  go_wp2_with (go_at_call 13; refine (awake_any _ HT.out).mono ?_; rintro e w1 ⟨rfl, hb1⟩)
  go_loopw [7, 8, 9, 10] (fun s n m i wr => ∃ (k : Nat) (S : ByteArray) (N M : Int), k ≤ zs.length ∧ k ≤ 40 ∧ i = .int .i64 (k : Int) ∧ s = .string S ∧ n = .int .i64 N ∧ m = .int .i64 M ∧ (0 ≤ N ∧ N ≤ k ∧ 0 ≤ M ∧ M ≤ k) ∧ ChAt k S N M ∧ Below w.heap.size w wr) (fun _ _ _ i _ => 40 - (intOf i).toNat)
  case atStart => exact ⟨0, ⟨#[]⟩, 0, 0, Nat.zero_le _, by omega, rfl, rfl, rfl, rfl, by omega, ⟨[], rfl, by simp, rfl, rfl, rfl⟩, hb1⟩
  case round =>
    obtain ⟨k, S, N, M, hk, hk40, rfl, rfl, rfl, rfl, ⟨hN0, hNk, hM0, hMk⟩, hat, hbw⟩ := hrel
    obtain ⟨l, hll, hlx, hS, hN, hM⟩ := hat
    have hz' := hbw.size
    by_cases hlt : k < zs.length ∧ k < 40
    · obtain ⟨hlt1, hlt2⟩ := hlt
      rcases HV.out.below hbw (Nat.le_refl _) with ⟨A', c', e, hz⟩ | ⟨b, off, c', e, hltb, hpos, hc⟩
      · rw [hz] at hlt1; simp at hlt1
      injection e with e1 _ e3
      subst e1
      subst e3
      have c0 := hc k hlt1
      generalize hz0e : zs.getD k 0 = z at c0
      obtain ⟨u, hu⟩ := u64_nat z
      have hS4 := (chS_parts 39 (by decide) l hlx).2
      rw [← hS] at hS4
      have hS5 : S.size ≤ 400 := by omega
      have HLX := Lib.hid hlx
      have HLL := Lib.hid hll
      have HS := Lib.hid hS
      have HN := Lib.hid hN
      have HM := Lib.hid hM
      clear hc hz0e hm9 hlx hll hS hN hM hS4
      have hk1 : (k : Int) < (zs.length : Int) := by omega
      have hk2 : (k : Int) < 40 := by omega
      have hr3 : (u : Int) % 3 = 0 ∨ (u : Int) % 3 = 1 ∨ (u : Int) % 3 = 2 := by omega
      rcases hr3 with hr | hr | hr
      · go_wp2_with fail
        go_roundw
        case rel => exact ⟨k + 1, S ++ ⟨#[92, 39]⟩, N + 1, M, by omega, by omega, by go_num, rfl, rfl, rfl, by omega, by rw [HS.out]; exact chAt_more (n := N) (m := M) 0 (by omega) HLL.out HLX.out (by rw [HN.out]; rfl) (by rw [HM.out]; rfl), hbw⟩
        case measure => simp [intOf]; omega
      · go_wp2_with fail
        go_roundw
        case rel => exact ⟨k + 1, S ++ ⟨#[92, 34]⟩, N, M + 1, by omega, by omega, by go_num, rfl, rfl, rfl, by omega, by rw [HS.out]; exact chAt_more (n := N) (m := M) 1 (by omega) HLL.out HLX.out (by rw [HN.out]; rfl) (by rw [HM.out]; rfl), hbw⟩
        case measure => simp [intOf]; omega
      · go_wp2_with fail
        go_roundw
        case rel => exact ⟨k + 1, S ++ ⟨#[97]⟩, N, M, by omega, by omega, by go_num, rfl, rfl, rfl, by omega, by rw [HS.out]; exact chAt_more (n := N) (m := M) 2 (by omega) HLL.out HLX.out (by rw [HN.out]; rfl) (by rw [HM.out]; rfl), hbw⟩
        case measure => simp [intOf]; omega
    · have hex : k < zs.length → ¬ k < 40 := fun h1 h2 => hlt ⟨h1, h2⟩
      have hdone : ¬ k < zs.length ∨ (k < zs.length ∧ ¬ k < 40) := by
        by_cases h : k < zs.length
        · exact Or.inr ⟨h, hex h⟩
        · exact Or.inl h
      obtain ⟨⟨ps, hps, hpk⟩, hsz⟩ := chS_parts 34 (by decide) l hlx
      have hpk2 := hpk false
      clear hpk
      rw [← hS] at hps hsz hpk2
      obtain ⟨h0, hfst⟩ := quote_first (single := false) hps
      rw [hpk2] at hfst
      have HFST : Hid (((quoteS (wrapQ 34 S) false)[0]'h0).toNat = (if N < M then 39 else 34)) := Lib.hid (by rw [hfst]; simp [hN, hM])
      have HC := Lib.hid (code_ok2 hps)
      have HQZ : Hid ((wrapQ 34 S).size ≤ 1000) := Lib.hid (by rw [wrap_size]; omega)
      have hS5 : S.size ≤ 400 := by omega
      have HQ := Lib.hid (fun (W : World) (hTW : Tabs W) => quote_any (wrapQ 34 S) false W (by have := HQZ.out; omega) hTW)
      rw [HC.out] at HQ
      generalize quoteS (wrapQ 34 S) false = t at *
      clear hex hlt hps hS hlx hll hsz hfst hpk2 hN hM
      have hmn : M < N ∨ N < M ∨ M = N := by omega
      rcases hmn with hmn | hmn | rfl
      all_goals
        have hf := HFST.out
        first | (rw [if_pos (by omega)] at hf) | (rw [if_neg (by omega)] at hf)
        have hfi : (((t[0]'h0).toNat : Nat) : Int) = _ := congrArg Nat.cast hf
        have HFI := Lib.hid hfi
        have h0i : 0 < (t.size : Int) := by omega
        clear hf hfi
        rcases hdone with hdone | ⟨hd1, hdone⟩
        all_goals
          go_wp2_with fail
          refine (HQ.out wr (HT.out.below hbw)).mono ?_
          rintro e w2 ⟨rfl, hw2⟩
          have HW2 := Lib.hid (hbw.call hw2)
          have hfi := HFI.out
          clear hw2
          go_wp2_with (go_at_call 12; refine (num_any _ _).mono ?_; rintro e w9 ⟨rfl, rfl⟩)
          go_ret
          exact ⟨rfl, HW2.out⟩
theorem strChosen_call (v : Value) (zs : List Int) (a b : Bool) (w : World) (hv : IntsIn w w.heap.size v zs) (hwf : ∀ n ∈ zs, (Lit.int .i64 n).wf = true) (hm : zs.length ≤ maxLen) (hT : Tabs w) :
    Calls Tryd.prog 9 #[v, .bool a, .bool b] w fun e w' => e = .returned (.bool true) ∧ Below w.heap.size w w' := by
  cases a <;> cases b
  · exact strChosen_false_false v zs w hv hm hT
  · exact strChosen_false_true v zs w hv hm hT
  · exact strChosen_true_false v zs w hv hm hT
  · exact strChosen_true_true v zs w hv hm hT

/-- What the walk gives, for every argument. -/
theorem strChosen_contract (H : Type) (enc : TypeId × Value → H) (W : World) (base : Nat) (args : Array Value) (ds gs : List (DataW H)) (before : List MemPlace)
    (hval : ∀ (j : Nat) t v, Tryd.f9.params[j]? = some t → args[j]? = some v → Value.okWide Tryd.prog W .any base t v)
    (hW : DataW.Whole enc Tryd.prog Tryd.f9.params.toList Rows.strChosenSpec.vars false W args.toList ds gs before)
    (hsz : (DataW.weightsEach Tryd.prog (Tryd.f9.params.toList ++ Rows.strChosenSpec.plain.varTypes Tryd.prog) (ds ++ gs)).all (· ≤ reachBytes) = true) (hT : Tabs W) :
    Calls Tryd.prog 9 args W fun e W' => ∃ v, e = .returned v ∧ Rows.strChosenSpec.post enc Tryd.prog Tryd.f9 false true false false W args v W' := by
  have hW' := hW
  obtain ⟨p, q, hA0, hV, rfl, hfz, hnd⟩ := hW
  have hA : DataW.TrodAll enc Tryd.prog W 0 (fun _ => true) true Tryd.f9.params.toList args.toList ds p := hA0
  rw [Tryd.params9] at hA hval hsz
  obtain ⟨v0, vs0, d0, ds0, p0, q0, hargs, rfl, rfl, h0, r0⟩ := trodAll_cons hA
  obtain ⟨v1, vs1, d1, ds1, p1, q1, rfl, rfl, rfl, h1, r1⟩ := trodAll_cons r0
  obtain ⟨v2, vs2, d2, ds2, p2, q2, rfl, rfl, rfl, h2, r2⟩ := trodAll_cons r1
  obtain ⟨rfl, rfl, rfl⟩ := trodAll_nil r2
  obtain rfl : args = #[v0, v1, v2] := by cases args; simp_all
  obtain ⟨rfl, rfl⟩ := trodVars_none hV
  have hlt := fun x hx => hW'.lt x hx
  obtain ⟨z0, i0, w0, m0⟩ := ints_open Tryd.underlying30 Tryd.underlying3 (by kernel_rfl) (hval 0 30 v0 rfl rfl) h0
  obtain ⟨a1, rfl, rfl, rfl⟩ := open_bool Tryd.underlying4 (hval 1 4 v1 rfl rfl) h1
  obtain ⟨a2, rfl, rfl, rfl⟩ := open_bool Tryd.underlying4 (hval 2 4 v2 rfl rfl) h2
  clear hA0 hval
  refine (strChosen_call v0 z0 a1 a2 W i0 w0 m0 hT).mono fun e W' ⟨he, hb⟩ => ?_
  subst he
  exact ⟨_, rfl, law_post_any (pv := []) Tryd.underlying4 (by kernel_rfl) hW' rfl (trodAll_cons_mk (Below.trod laidOut (by kernel_rfl) (of_decide_eq_true (by kernel_rfl)) h0 hb (fun x hx => hlt x (by simp [hx]))) (trodAll_cons_mk (shut_bool Tryd.underlying4 _) (trodAll_cons_mk (shut_bool Tryd.underlying4 _) trodAll_mk0))) rfl hb⟩

theorem strChosen_reads (os : Os) {H : Type} (enc : TypeId × Value → H) : ∃ places, DataW.whole enc Tryd.prog ((laidWorld os).forCall (fun _ _ => 0) ⟨#[], #[.slice none 0 0, .bool false, .bool false], []⟩).memory Tryd.f9.params.toList Rows.strChosenSpec.vars false (#[.slice none 0 0, .bool false, .bool false] : Array Value).toList 8 = some ([.nil, .lit (.bool false), .lit (.bool false)], [], places) :=
  ⟨[], by kernel_rfl⟩
theorem strChosen_lifted (os : Os) (started : os.Started) (H : Type) (enc : TypeId × Value → H) (F : Stop.Interp) :
    ReturnsInHanded {} Tryd.checked os 9 .any ((OpenSpec.ofChange Rows.strChosenSpec).preRow enc Tryd.prog Tryd.f9 Rows.strChosenRow.domain false Rows.strChosenRow.laid) (((OpenSpec.ofChange Rows.strChosenSpec).at F).post enc Tryd.prog Tryd.f9 false true false false) := by
  obtain ⟨places, hx⟩ := strChosen_reads os enc
  refine returnsInHanded_of_row (C := Tryd.checked) (s := (OpenSpec.ofChange Rows.strChosenSpec)) ownKnob_none started (by kernel_rfl) Tryd.func9
    (witness_row_at (enc := enc) (C := Tryd.checked) false (laidWorld os) #[.slice none 0 0, .bool false, .bool false] rfl (by kernel_rfl) (by kernel_rfl) (by kernel_rfl)
      (OpenSpec.preRow_of_cond 8 hx (by kernel_rfl) (fun k hk => by cases hk) (by kernel_rfl) (laid_met os _))) ?_
  intro W base args ds gs before hval hW _ _ hsz hL _ _
  exact strChosen_contract H enc W base args ds gs before hval hW hsz (tabs_of_laid hL)
theorem strChosen_said : Rows.StrChosenSaid :=
  OpenClaim.holds_of_cond 9 Tryd.f9 rfl rfl rfl rfl rfl rfl rfl ⟨rfl, rfl, rfl, rfl, rfl⟩ rfl rfl rfl rfl rfl (by kernel_rfl) Tryd.func9 (by kernel_rfl)
    (of_decide_eq_true (by kernel_rfl)) (by unfold Func.isWrapper; first | (rw [if_pos (by decide +kernel)]; kernel_rfl) | (rw [if_neg (by decide +kernel)]; exact ⟨rfl, rfl⟩))
    (fun os started H enc _ F => by rw [OpenClaim.pre_eq_preRow]; exact strChosen_lifted os started H enc F)
theorem strChosen_plain (f : FuncId) (fn : Func) (hf : Tryd.pinned.checked.prog.funcNamed Rows.strChosenRow.func = some f) (hfn : Tryd.pinned.checked.prog.funcs[f]? = some fn) :
    false = Tryd.pinned.checked.prog.looks [] ∧ ∀ (j : Nat) t, fn.params[j]? = some t → Tryd.pinned.checked.prog.wantsStandIn t = false := by
  obtain rfl : f = 9 := Option.some.inj ((show Tryd.prog.funcNamed Rows.strChosenRow.func = some 9 by kernel_rfl).symm.trans hf) |>.symm
  obtain rfl : fn = Tryd.f9 := (Option.some.inj (Tryd.func9.symm.trans hfn)).symm
  refine ⟨by kernel_rfl, fun j t ht => ?_⟩
  rw [Tryd.params9] at ht
  have hm := Array.mem_of_getElem? ht
  have hall : ∀ t ∈ (#[30, 4, 4] : Array TypeId), Tryd.prog.wantsStandIn t = false := by
    intro t ht
    simp only [List.mem_toArray, List.mem_cons, List.mem_nil_iff, or_false] at ht
    rcases ht with rfl | rfl | rfl
    all_goals kernel_rfl
  exact hall t hm

/-- THE CARD. -/
theorem strChosen_card : Rows.StrChosenCardSaid :=
  Claim7.holds_tied_plain_at .later [] _ _ _ _ strChosen_said (fun _ h => by cases h) (by kernel_rfl) (fun _ h => by cases h) strChosen_row_tie rfl ⟨rfl, rfl⟩ (by kernel_rfl) rfl strChosen_plain (by kernel_rfl)
#print axioms strChosen_card
end Go.Proofs.YtcjnlbelgmcpeaaDoor
