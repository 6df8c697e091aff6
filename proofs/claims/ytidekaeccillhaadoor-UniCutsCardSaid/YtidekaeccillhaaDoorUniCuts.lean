/- WHAT IS PROVED: UniCuts holds for every slice of ints and every int: a valid text cut anywhere is valid just where a character ends, and the place told is where the cut one begins. Condition: the listed tables of the library's decoder read as its text lays them (the card ties them). -/
import Derived.Test.YtidekaeccillhaaDoorCard
import Derived.Test.YtidekaeccillhaaDoorArgs
import Derived.Test.YtidekaeccillhaaDoorCutsPlain
import Derived.Maps.AppendAt
import Derived.Lib.OthersKept
namespace Go.Proofs.YtidekaeccillhaaDoor
open Go.RowKit Go.ChangeShapes Go.WideShapes Go.ChangeAt
open Go.ChangeMaps (open_string shut_string)
set_option maxRecDepth 100000
set_option linter.unusedVariables false

theorem laidOut : laidOutB Tryd.prog = true := by kernel_rfl
theorem info32 : (Tryd.prog.info? 21).map (fun i => (i.zero, i.size, i.bytes)) = some (some (.int .i32 0), 1, 4) := by kernel_rfl
theorem u64_nat (a : Int) : ∃ u : Nat, IntKind.u64.wrap a = (u : Int) := by
  refine ⟨(IntKind.u64.wrap a).toNat, ?_⟩
  rw [IntKind.wrap_u64]
  omega

/-- The first loop: numbers made of the slice's. -/
def Made (w wr : World) (k : Nat) (v : Value) (xs : List Int) : Prop :=
  xs.length = k ∧ wr.ownsRow w.heap.size 21 1 v k (xs.map (Value.int .i32)) ∧ (k = 0 → v = .slice none 0 0)

set_option maxHeartbeats 8000000 in
theorem uniCuts_call (v : Value) (zs : List Int) (a : Int) (w : World) (hv : IntsIn w w.heap.size v zs) (hwf : ∀ n ∈ zs, (Lit.int .i64 n).wf = true) (hm : zs.length ≤ maxLen) (wa : (Lit.int .i64 a).wf = true) (hT : Tabs w) :
    Calls Tryd.prog 9 #[v, .int .i64 a] w fun e w' => e = .returned (.bool true) ∧ Below w.heap.size w w' := by
  obtain ⟨ua, hua⟩ := u64_nat a
  obtain ⟨i0, hi0, hz0, hz1, hz2⟩ := info_parts info32
  have hm9 : zs.length ≤ 9223372036854775807 := by unfold maxLen at hm; omega
  clear hm
  obtain ⟨A, c, rfl⟩ := hv.len
  have HT := Lib.hid hT
  have HV := Lib.hid hv
  clear hT hv hwf wa
  go_enter Tryd.func9, Tryd.ntmps9
  go_wp2_with (go_at_call 14; refine (awake1_any _ HT.out).mono ?_; rintro e w1 ⟨rfl, hb1⟩)
  go_loopw [5, 6, 7] (fun out i _ wr => ∃ (k : Nat) (xs : List Int), k ≤ zs.length ∧ k ≤ 50 ∧ i = .int .i64 (k : Int) ∧ Made w wr k out xs ∧ Below w.heap.size w wr) (fun _ i _ _ => 50 - (intOf i).toNat)
  case atStart => exact ⟨0, [], Nat.zero_le _, by omega, rfl, ⟨rfl, World.ownsRow_nil _ _ _ _, fun _ => rfl⟩, hb1⟩
  case round =>
    obtain ⟨k, xs, hk, hk50, rfl, hmade, hbw⟩ := hrel
    obtain ⟨hxl, hown, hnil⟩ := hmade
    have hz' := hbw.size
    by_cases hlt : k < zs.length ∧ k < 50
    · obtain ⟨hlt1, hlt2⟩ := hlt
      rcases HV.out.below hbw (Nat.le_refl _) with ⟨A', c', e, hz⟩ | ⟨b, off, c', e, hltb, hpos, hc⟩
      · rw [hz] at hlt1; simp at hlt1
      injection e with e1 _ e3
      subst e1
      subst e3
      have c0 := hc k hlt1
      generalize hz0e : zs.getD k 0 = z at c0
      obtain ⟨u, hu⟩ := u64_nat z
      clear hc hz0e hnil
      clear hm9
      have hk1 : (k : Int) < (zs.length : Int) := by omega
      have hk2 : (k : Int) < 50 := by omega
      by_cases hs1 : 55296 ≤ (u : Int) % 1114112
      · by_cases hs2 : (u : Int) % 1114112 ≤ 57343
        · have HOWN := Lib.hid (hown.alloc (.cells #[.int .i32 (120)] 21))
          have HL := Lib.hid hown.lt
          have HM : Hid (k + 1 ≤ maxLen) := Lib.hid (by unfold maxLen; omega)
          have HB : Hid ((k + 1) * 4 ≤ 140737488355328) := Lib.hid (by omega)
          have HS5 : Hid (w.heap.size ≤ (wr.alloc (.cells #[.int .i32 (120)] 21)).heap.size) := Lib.hid (by simp; omega)
          clear hown
          go_wp2_with (at_builtin; refine wpList_append_own _ rfl (.tmp 41) (.tmp 43) _ rfl w.heap.size 21 i0 (.int .i32 0) 1 4 Tryd.underlying36 hi0 hz0 hz1 hz2 rfl (by decide) _ k _ rfl HOWN.out ⟨wr.heap.size, 0, none⟩ 1 1 [.int .i32 (120)] rfl rfl (cell_one_new _ _ _) (by simp [Value.oneCell']) HM.out HB.out HS5.out ?_)
          intro v' w2 hown1 hg1 _hv
          have hbw1 : Below w.heap.size w w2 := (hbw.alloc hz' _).grown hg1 (by simp; omega) (fun g hg => (HL.out g hg).1)
          go_wp2
          go_roundw
          case rel => exact ⟨k + 1, xs ++ [120], by omega, by omega, by go_num, ⟨by simp [hxl], by rw [List.map_append]; exact hown1, fun h => by omega⟩, hbw1⟩
          case measure => simp [intOf]; omega
        · have HOWN := Lib.hid (hown.alloc (.cells #[.int .i32 ((u : Int) % 1114112)] 21))
          have HL := Lib.hid hown.lt
          have HM : Hid (k + 1 ≤ maxLen) := Lib.hid (by unfold maxLen; omega)
          have HB : Hid ((k + 1) * 4 ≤ 140737488355328) := Lib.hid (by omega)
          have HS5 : Hid (w.heap.size ≤ (wr.alloc (.cells #[.int .i32 ((u : Int) % 1114112)] 21)).heap.size) := Lib.hid (by simp; omega)
          clear hown
          go_wp2_with (at_builtin; refine wpList_append_own _ rfl (.tmp 41) (.tmp 43) _ rfl w.heap.size 21 i0 (.int .i32 0) 1 4 Tryd.underlying36 hi0 hz0 hz1 hz2 rfl (by decide) _ k _ rfl HOWN.out ⟨wr.heap.size, 0, none⟩ 1 1 [.int .i32 ((u : Int) % 1114112)] rfl rfl (cell_one_new _ _ _) (by simp [Value.oneCell']) HM.out HB.out HS5.out ?_)
          intro v' w2 hown1 hg1 _hv
          have hbw1 : Below w.heap.size w w2 := (hbw.alloc hz' _).grown hg1 (by simp; omega) (fun g hg => (HL.out g hg).1)
          go_wp2
          go_roundw
          case rel => exact ⟨k + 1, xs ++ [(u : Int) % 1114112], by omega, by omega, by go_num, ⟨by simp [hxl], by rw [List.map_append]; exact hown1, fun h => by omega⟩, hbw1⟩
          case measure => simp [intOf]; omega
      · have HOWN := Lib.hid (hown.alloc (.cells #[.int .i32 ((u : Int) % 1114112)] 21))
        have HL := Lib.hid hown.lt
        have HM : Hid (k + 1 ≤ maxLen) := Lib.hid (by unfold maxLen; omega)
        have HB : Hid ((k + 1) * 4 ≤ 140737488355328) := Lib.hid (by omega)
        have HS5 : Hid (w.heap.size ≤ (wr.alloc (.cells #[.int .i32 ((u : Int) % 1114112)] 21)).heap.size) := Lib.hid (by simp; omega)
        clear hown
        go_wp2_with (at_builtin; refine wpList_append_own _ rfl (.tmp 41) (.tmp 43) _ rfl w.heap.size 21 i0 (.int .i32 0) 1 4 Tryd.underlying36 hi0 hz0 hz1 hz2 rfl (by decide) _ k _ rfl HOWN.out ⟨wr.heap.size, 0, none⟩ 1 1 [.int .i32 ((u : Int) % 1114112)] rfl rfl (cell_one_new _ _ _) (by simp [Value.oneCell']) HM.out HB.out HS5.out ?_)
        intro v' w2 hown1 hg1 _hv
        have hbw1 : Below w.heap.size w w2 := (hbw.alloc hz' _).grown hg1 (by simp; omega) (fun g hg => (HL.out g hg).1)
        go_wp2
        go_roundw
        case rel => exact ⟨k + 1, xs ++ [(u : Int) % 1114112], by omega, by omega, by go_num, ⟨by simp [hxl], by rw [List.map_append]; exact hown1, fun h => by omega⟩, hbw1⟩
        case measure => simp [intOf]; omega
    · have HSV := Lib.hid (runes_valid xs)
      have hS : (runesBytes xs).size ≤ 200 := by
        have := runesBytes_size_le xs
        omega
      have hconv : (convert 36 9 u5).run Tryd.prog wr = .ok (.string (runesBytes xs)) wr := by
        by_cases h0 : k = 0
        · rw [hnil h0]
          have hx0 : xs = [] := List.eq_nil_of_length_eq_zero (by omega)
          subst hx0
          exact run_convert_runes_nil wr 36 9 21 0 0 Tryd.underlying36 Tryd.underlying21 Tryd.underlying9
        · rcases hown.2 with ⟨_, h⟩ | ⟨g, cap, cur, e, _⟩
          · exact absurd h h0
          · subst e
            have hcv := run_convert_runes (P := Tryd.prog) wr 36 9 21 ⟨g, 0, none⟩ k cap xs (by omega) Tryd.underlying36 Tryd.underlying21 Tryd.underlying9 (fun j hj => by
              refine hown.cells (g := g) rfl j _ ?_
              simp [hj])
            rw [List.take_of_length_le (by omega)] at hcv
            exact hcv
      have hex : k < zs.length → ¬ k < 50 := fun h1 h2 => hlt ⟨h1, h2⟩
      have hdone : ¬ k < zs.length ∨ (k < zs.length ∧ ¬ k < 50) := by
        by_cases h : k < zs.length
        · exact Or.inr ⟨h, hex h⟩
        · exact Or.inl h
      clear hown hnil hex hlt
      generalize runesBytes xs = S at *
      rcases hdone with hdone | ⟨hd1, hdone⟩
      all_goals
        go_wp2_with fail
        refine (valid_is S (p := 0) (c := 0) wr (by omega) (HT.out.below hbw) (valid_none HSV.out)).mono ?_
        rintro e w2 ⟨rfl, hb2⟩
        have hk0 : (0 : Int) ≤ (ua : Int) := by omega
        have HK : Hid (ua % (S.size + 1) ≤ S.size) := Lib.hid (by have := Nat.mod_lt ua (show 0 < S.size + 1 by omega); omega)
        have hkk : (ua : Int) % ((S.size : Int) + 1) = ((ua % (S.size + 1) : Nat) : Int) := by simp
        generalize ua % (S.size + 1) = kk at *
        have hk1 := HK.out
        obtain ⟨B, hB, hB1, hB2⟩ := cut_said S kk hk1 kk 0 0 HSV.out (Nat.zero_le _) (by omega)
        have HB := Lib.hid hB
        have hx2 : (S.extract 0 kk).size ≤ 2305843009213693952 := by rw [cut_size S kk hk1]; omega
        have HX2 := Lib.hid hx2
        clear hB hx2
        have hw2 : Below w.heap.size w w2 := hbw.call hb2
        by_cases hBk : B = kk
        · have HN := Lib.hid (valid_none (hB1 hBk))
          clear hB1 hB2
          go_wp2_with fail
          refine (valid_is (S.extract 0 kk) (p := 0) (c := 0) w2 HX2.out (HT.out.below hw2) HN.out).mono ?_
          rintro e w3 ⟨rfl, hb3⟩
          have hw3 : Below w.heap.size w w3 := hw2.call hb3
          have hz3 := hw3.size
          have HZ3 := Lib.hid hz3
          clear hb3 hb2 hw2 hbw hz' HX2 HN hz3 hk0 hkk
          go_wp2_with fail
          go_loopw [14, 15] (fun n i wr => ∃ (pos b : Nat), pos ≤ S.size ∧ b ≤ S.size ∧ n = .int .i64 (b : Int) ∧ wr.heap[w3.heap.size]? = some (.stringIter S pos) ∧ Below w.heap.size w wr ∧ (if kk = S.size then kk else begRest S kk pos b) = B) (fun _ _ wr => S.size - wr.iterPos w3.heap.size)
          case atStart => exact ⟨0, 0, Nat.zero_le _, Nat.zero_le _, rfl, World.iter_heap w3 S 0, hw3.alloc HZ3.out _, HB.out⟩
          case round =>
            obtain ⟨pos, b, hle, hbl, rfl, hit, hbwr, hB⟩ := hrel
            clear HB
            have HR := Lib.hid hB
            clear hB
            by_cases hp : pos < S.size
            · have HS := Lib.hid (begRest_step S kk pos b hp)
              have hin := decode_in S pos hp
              have hps := decode_pos S pos
              have hnx : ∀ ty, (Instr.next (.pointer (some ⟨w3.heap.size, 0, none⟩)) true ty).run Tryd.prog wr = _ := fun ty => Lib.run_next_any_at wr w3.heap.size S pos ty hit hp
              have hit2 := Lib.iterAt_heap wr w3.heap.size S pos (pos + (Utf8.decode S pos).2) hit
              have hbw2 := Lib.below_iterAt hbwr (k := w3.heap.size) HZ3.out S (pos + (Utf8.decode S pos).2)
              generalize hd : (Utf8.decode S pos).1 = d at *
              generalize hwd : (Utf8.decode S pos).2 = wd at *
              generalize hW : wr.iterAt w3.heap.size S (pos + wd) = W at *
              have HIT := Lib.hid hit
              clear hd hwd hit hW
              have HM : Hid (W.iterPos w3.heap.size = pos + wd) := Lib.hid (by simp [World.iterPos, hit2])
              have HIT2 := Lib.hid hit2
              clear hit2
              by_cases hpk : pos ≤ kk
              · go_wp2_with fail
                go_roundw
                case rel => exact ⟨pos + wd, pos, hin, by omega, rfl, HIT2.out, hbw2, by have := HR.out; rw [HS.out, if_pos hpk] at this; exact this⟩
                case measure => rw [HM.out]; simp only [World.iterPos, HIT.out]; omega
              · go_wp2_with fail
                go_roundw
                case rel => exact ⟨pos + wd, b, hin, hbl, rfl, HIT2.out, hbw2, by have := HR.out; rw [HS.out, if_neg hpk] at this; exact this⟩
                case measure => rw [HM.out]; simp only [World.iterPos, HIT.out]; omega
            · have HE := Lib.hid (begRest_end S kk pos b hp)
              have hnx : ∀ ty, (Instr.next (.pointer (some ⟨w3.heap.size, 0, none⟩)) true ty).run Tryd.prog wr = _ := fun ty => Lib.run_next_end_at wr w3.heap.size S pos ty hit hp
              have HH := HR.out
              rw [HE.out] at HH
              by_cases hks : kk = S.size
              · clear HH
                have hks' : (kk : Int) = (S.size : Int) := by omega
                go_wp2_with (go_at_call 13; refine (num_any _ _).mono ?_; rintro e w4 ⟨rfl, rfl⟩)
                go_ret
                exact ⟨rfl, hbwr⟩
              · rw [if_neg hks] at HH
                have hbk : b = kk := by omega
                clear HH
                go_wp2_with (go_at_call 13; refine (num_any _ _).mono ?_; rintro e w4 ⟨rfl, rfl⟩)
                go_ret
                exact ⟨rfl, hbwr⟩
        · have HN := Lib.hid (valid_some (hB2 hBk))
          clear hB1 hB2
          go_wp2_with fail
          refine (valid_is (S.extract 0 kk) (p := (B : Int)) (c := 100) w2 HX2.out (HT.out.below hw2) HN.out).mono ?_
          rintro e w3 ⟨rfl, hb3⟩
          have hw3 : Below w.heap.size w w3 := hw2.call hb3
          have hz3 := hw3.size
          have HZ3 := Lib.hid hz3
          clear hb3 hb2 hw2 hbw hz' HX2 HN hz3 hk0 hkk
          go_wp2_with fail
          go_loopw [14, 15] (fun n i wr => ∃ (pos b : Nat), pos ≤ S.size ∧ b ≤ S.size ∧ n = .int .i64 (b : Int) ∧ wr.heap[w3.heap.size]? = some (.stringIter S pos) ∧ Below w.heap.size w wr ∧ (if kk = S.size then kk else begRest S kk pos b) = B) (fun _ _ wr => S.size - wr.iterPos w3.heap.size)
          case atStart => exact ⟨0, 0, Nat.zero_le _, Nat.zero_le _, rfl, World.iter_heap w3 S 0, hw3.alloc HZ3.out _, HB.out⟩
          case round =>
            obtain ⟨pos, b, hle, hbl, rfl, hit, hbwr, hB⟩ := hrel
            clear HB
            have HR := Lib.hid hB
            clear hB
            by_cases hp : pos < S.size
            · have HS := Lib.hid (begRest_step S kk pos b hp)
              have hin := decode_in S pos hp
              have hps := decode_pos S pos
              have hnx : ∀ ty, (Instr.next (.pointer (some ⟨w3.heap.size, 0, none⟩)) true ty).run Tryd.prog wr = _ := fun ty => Lib.run_next_any_at wr w3.heap.size S pos ty hit hp
              have hit2 := Lib.iterAt_heap wr w3.heap.size S pos (pos + (Utf8.decode S pos).2) hit
              have hbw2 := Lib.below_iterAt hbwr (k := w3.heap.size) HZ3.out S (pos + (Utf8.decode S pos).2)
              generalize hd : (Utf8.decode S pos).1 = d at *
              generalize hwd : (Utf8.decode S pos).2 = wd at *
              generalize hW : wr.iterAt w3.heap.size S (pos + wd) = W at *
              have HIT := Lib.hid hit
              clear hd hwd hit hW
              have HM : Hid (W.iterPos w3.heap.size = pos + wd) := Lib.hid (by simp [World.iterPos, hit2])
              have HIT2 := Lib.hid hit2
              clear hit2
              by_cases hpk : pos ≤ kk
              · go_wp2_with fail
                go_roundw
                case rel => exact ⟨pos + wd, pos, hin, by omega, rfl, HIT2.out, hbw2, by have := HR.out; rw [HS.out, if_pos hpk] at this; exact this⟩
                case measure => rw [HM.out]; simp only [World.iterPos, HIT.out]; omega
              · go_wp2_with fail
                go_roundw
                case rel => exact ⟨pos + wd, b, hin, hbl, rfl, HIT2.out, hbw2, by have := HR.out; rw [HS.out, if_neg hpk] at this; exact this⟩
                case measure => rw [HM.out]; simp only [World.iterPos, HIT.out]; omega
            · have HE := Lib.hid (begRest_end S kk pos b hp)
              have hnx : ∀ ty, (Instr.next (.pointer (some ⟨w3.heap.size, 0, none⟩)) true ty).run Tryd.prog wr = _ := fun ty => Lib.run_next_end_at wr w3.heap.size S pos ty hit hp
              have HH := HR.out
              rw [HE.out] at HH
              by_cases hks : kk = S.size
              · rw [if_pos hks] at HH
                exact absurd HH.symm hBk
              · rw [if_neg hks] at HH
                have hbk : b ≠ kk := by omega
                go_wp2_with (go_at_call 13; refine (num_any _ _).mono ?_; rintro e w4 ⟨rfl, rfl⟩)
                go_ret
                exact ⟨rfl, hbwr⟩

/-- What the walk gives, for every argument. -/
theorem uniCuts_contract (H : Type) (enc : TypeId × Value → H) (W : World) (base : Nat) (args : Array Value) (ds gs : List (DataW H)) (before : List MemPlace)
    (hval : ∀ (j : Nat) t v, Tryd.f9.params[j]? = some t → args[j]? = some v → Value.okWide Tryd.prog W .any base t v)
    (hW : DataW.Whole enc Tryd.prog Tryd.f9.params.toList Rows.uniCutsSpec.vars false W args.toList ds gs before)
    (hsz : (DataW.weightsEach Tryd.prog (Tryd.f9.params.toList ++ Rows.uniCutsSpec.plain.varTypes Tryd.prog) (ds ++ gs)).all (· ≤ reachBytes) = true) (hT : Tabs W) :
    Calls Tryd.prog 9 args W fun e W' => ∃ v, e = .returned v ∧ Rows.uniCutsSpec.post enc Tryd.prog Tryd.f9 false true false false W args v W' := by
  have hW' := hW
  obtain ⟨p, q, hA0, hV, rfl, hfz, hnd⟩ := hW
  have hA : DataW.TrodAll enc Tryd.prog W 0 (fun _ => true) true Tryd.f9.params.toList args.toList ds p := hA0
  rw [Tryd.params9] at hA hval hsz
  obtain ⟨v0, vs0, d0, ds0, p0, q0, hargs, rfl, rfl, h0, r0⟩ := trodAll_cons hA
  obtain ⟨v1, vs1, d1, ds1, p1, q1, rfl, rfl, rfl, h1, r1⟩ := trodAll_cons r0
  obtain ⟨rfl, rfl, rfl⟩ := trodAll_nil r1
  obtain rfl : args = #[v0, v1] := by cases args; simp_all
  obtain ⟨rfl, rfl⟩ := trodVars_none hV
  have hlt := fun x hx => hW'.lt x hx
  obtain ⟨z0, i0, w0, m0⟩ := ints_open Tryd.underlying33 Tryd.underlying3 (by kernel_rfl) (hval 0 33 v0 rfl rfl) h0
  obtain ⟨a1, rfl, rfl, rfl, w1⟩ := open_int Tryd.underlying3 (hval 1 3 v1 rfl rfl) h1
  clear hA0 hval
  refine (uniCuts_call v0 z0 a1 W i0 w0 m0 w1 hT).mono fun e W' ⟨he, hb⟩ => ?_
  subst he
  exact ⟨_, rfl, law_post_any (pv := []) Tryd.underlying4 (by kernel_rfl) hW' rfl (trodAll_cons_mk (Below.trod laidOut (by kernel_rfl) (of_decide_eq_true (by kernel_rfl)) h0 hb (fun x hx => hlt x (by simp [hx]))) (trodAll_cons_mk (shut_int Tryd.underlying3 w1) trodAll_mk0)) rfl hb⟩

theorem uniCuts_reads (os : Os) {H : Type} (enc : TypeId × Value → H) : ∃ places, DataW.whole enc Tryd.prog ((laidWorld os).forCall (fun _ _ => 0) ⟨#[], #[.slice none 0 0, .int .i64 0], []⟩).memory Tryd.f9.params.toList Rows.uniCutsSpec.vars false (#[.slice none 0 0, .int .i64 0] : Array Value).toList 8 = some ([.nil, .lit (.int .i64 0)], [], places) :=
  ⟨[], by kernel_rfl⟩
theorem uniCuts_lifted (os : Os) (started : os.Started) (H : Type) (enc : TypeId × Value → H) (F : Stop.Interp) :
    ReturnsInHanded {} Tryd.checked os 9 .any ((OpenSpec.ofChange Rows.uniCutsSpec).preRow enc Tryd.prog Tryd.f9 Rows.uniCutsRow.domain false Rows.uniCutsRow.laid) (((OpenSpec.ofChange Rows.uniCutsSpec).at F).post enc Tryd.prog Tryd.f9 false true false false) := by
  obtain ⟨places, hx⟩ := uniCuts_reads os enc
  refine returnsInHanded_of_row (C := Tryd.checked) (s := (OpenSpec.ofChange Rows.uniCutsSpec)) ownKnob_none started (by kernel_rfl) Tryd.func9
    (witness_row_at (enc := enc) (C := Tryd.checked) false (laidWorld os) #[.slice none 0 0, .int .i64 0] rfl (by kernel_rfl) (by kernel_rfl) (by kernel_rfl)
      (OpenSpec.preRow_of_cond 8 hx (by kernel_rfl) (fun k hk => by cases hk) (by kernel_rfl) (laid_met os _))) ?_
  intro W base args ds gs before hval hW _ _ hsz hL _ _
  exact uniCuts_contract H enc W base args ds gs before hval hW hsz (tabs_of_laid hL)
theorem uniCuts_said : Rows.UniCutsSaid :=
  OpenClaim.holds_of_cond 9 Tryd.f9 rfl rfl rfl rfl rfl rfl rfl ⟨rfl, rfl, rfl, rfl, rfl⟩ rfl rfl rfl rfl rfl (by kernel_rfl) Tryd.func9 (by kernel_rfl)
    (of_decide_eq_true (by kernel_rfl)) (by unfold Func.isWrapper; first | (rw [if_pos (by decide +kernel)]; kernel_rfl) | (rw [if_neg (by decide +kernel)]; exact ⟨rfl, rfl⟩))
    (fun os started H enc _ F => by rw [OpenClaim.pre_eq_preRow]; exact uniCuts_lifted os started H enc F)
theorem uniCuts_plain (f : FuncId) (fn : Func) (hf : Tryd.pinned.checked.prog.funcNamed Rows.uniCutsRow.func = some f) (hfn : Tryd.pinned.checked.prog.funcs[f]? = some fn) :
    false = Tryd.pinned.checked.prog.looks [] ∧ ∀ (j : Nat) t, fn.params[j]? = some t → Tryd.pinned.checked.prog.wantsStandIn t = false := by
  obtain rfl : f = 9 := Option.some.inj ((show Tryd.prog.funcNamed Rows.uniCutsRow.func = some 9 by kernel_rfl).symm.trans hf) |>.symm
  obtain rfl : fn = Tryd.f9 := (Option.some.inj (Tryd.func9.symm.trans hfn)).symm
  refine ⟨by kernel_rfl, fun j t ht => ?_⟩
  rw [Tryd.params9] at ht
  have hm := Array.mem_of_getElem? ht
  have hall : ∀ t ∈ (#[33, 3] : Array TypeId), Tryd.prog.wantsStandIn t = false := by
    intro t ht
    simp only [List.mem_toArray, List.mem_cons, List.mem_nil_iff, or_false] at ht
    rcases ht with rfl | rfl
    all_goals kernel_rfl
  exact hall t hm

/-- THE CARD. -/
theorem uniCuts_card : Rows.UniCutsCardSaid :=
  Claim7.holds_tied_plain_at .later [] _ _ _ _ uniCuts_said (fun _ h => by cases h) (by kernel_rfl) (fun _ h => by cases h) uniCuts_row_tie rfl ⟨rfl, rfl⟩ (by kernel_rfl) rfl uniCuts_plain (by kernel_rfl)
#print axioms uniCuts_card
end Go.Proofs.YtidekaeccillhaaDoor
