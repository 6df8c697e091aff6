/- WHAT IS PROVED: WordLevels holds for every two ints: operators of the language's rows hold as tight as their rows say, and no other text of the list is one. Condition: none. -/
import Derived.Test.YtidekaeccillhaaWordLaw
import Derived.Test.YtidekaeccillhaaDecimal
import Derived.BigQuiet
import Derived.SizedLaws
namespace Go.Proofs.Ytidekaeccillhaa
open Go.RowKit Go.ChangeShapes Go.WideShapes Go.ChangeAt
open Go.ChangeMaps (open_string shut_string)
set_option maxRecDepth 100000
set_option linter.unusedVariables false

theorem wp_world {P : Program} {c : Code} {Q : Exit → Act → World → Prop} {a : Act} {w : World} (S : World → Prop) (hS : S w) (h : ∀ W, S W → c.wp P Q a W) : c.wp P Q a w := h w hS

theorem rows_said : ∀ i, i < 12 → (1 ≤ (levRows.getD i []).length ∧ (levRows.getD i []).length ≤ 6) ∧ ∀ j, j < (levRows.getD i []).length → levB ((levRows.getD i []).getD j default) = i + 1 ∧ rightB ((levRows.getD i []).getD j default) = decide (i = 11) := by decide

/-- The texts that are no operators. -/
def othersL (d : List UInt8) : List ByteArray := [⟨#[]⟩, ⟨#[61]⟩, ⟨#[43, 61]⟩, ⟨#[33]⟩, ⟨#[126]⟩, ⟨#[61, 62]⟩, ⟨#[63]⟩, ⟨#[46]⟩, ⟨#[111, 102]⟩, ⟨#[43, 43]⟩, ⟨d.toArray⟩]
theorem dec_no_op (a : Int) : levB ⟨(decB a).toArray⟩ = 0 := by
  refine levB_none (hasB_none fun x hx => ?_)
  obtain ⟨pre, d, hd, e⟩ := decB_last a
  rw [beq_eq_false_iff_ne]
  intro he
  have hl : ∀ x ∈ opsAll, ∀ d : Nat, d < 10 → x.data.toList.getLast? ≠ some (UInt8.ofNat (48 + d)) := by decide
  refine hl x hx d hd ?_
  rw [← he]
  show (decB a).getLast? = _
  rw [e]
  simp
theorem others_no_op (a : Int) : ∀ j, j < 11 → levB ((othersL (decB a)).getD j default) = 0 := by
  intro j hj
  by_cases h : j = 10
  · subst h
    exact dec_no_op a
  · have h10 : j < 10 := by omega
    have e : (othersL (decB a)).getD j default = (othersL []).getD j default := by
      have : ∀ k : Nat, k < 10 → ∀ d : List UInt8, (othersL d).getD k default = (othersL []).getD k default := by
        intro k hk d
        match k, hk with
        | 0, _ | 1, _ | 2, _ | 3, _ | 4, _ | 5, _ | 6, _ | 7, _ | 8, _ | 9, _ => rfl
      exact this j h10 _
    rw [e]
    have : ∀ k, k < 10 → levB ((othersL []).getD k default) = 0 := by decide
    exact this j h10

theorem level_is (s : ByteArray) {x : Int} (w : World) (h : ((levB s : Nat) : Int) = x) : Calls Try.prog 9 #[.string s] w fun e w' => e = .returned (.int .i64 x) ∧ w = w' := by
  subst h
  exact level_any s w
theorem right_is (s : ByteArray) {b : Bool} (w : World) (h : rightB s = b) : Calls Try.prog 11 #[.string s] w fun e w' => e = .returned (.bool b) ∧ w = w' := by
  subst h
  exact right_any s w

set_option maxHeartbeats 8000000 in
theorem wordLevels_core (a b : Int) (wa : -9223372036854775808 ≤ a) (wa' : a ≤ 9223372036854775807) (ua ub : Nat) (hua : IntKind.u64.wrap a = (ua : Int)) (hub : IntKind.u64.wrap b = (ub : Int)) (w : World) :
    Calls Try.prog 4 #[.int .i64 a, .int .i64 b] w fun e w' => e = .returned (.bool true) ∧ Below w.heap.size w w' := by
  have HA9 := Lib.hid (And.intro wa wa')
  clear wa wa'
  go_enter Try.func4, Try.ntmps4
  go_wp2_with (go_at_call 13; refine (awake6_any _).mono ?_; rintro e w1 ⟨rfl, hb1⟩)
  refine wp_world (fun W => RowsAt W (w1.heap.size + 1 + 1 + 1 + 1 + 1 + 1 + 1 + 1 + 1 + 1 + 1 + 1) w1.heap.size levRows ∧ Below w.heap.size w W) ⟨rowsAt_build 9 26 w1 levRows, hb1.call ((buildRows_below 9 levRows w1).1.alloc (by rw [(buildRows_below 9 levRows w1).2]; omega) _)⟩ ?_
  rintro W ⟨hrow, hbW⟩
  generalize w1.heap.size + 1 + 1 + 1 + 1 + 1 + 1 + 1 + 1 + 1 + 1 + 1 + 1 = B at *
  have hA : ua % 12 < 12 := Nat.mod_lt _ (by decide)
  have hB : ub % 12 < 12 := Nat.mod_lt _ (by decide)
  obtain ⟨cx, cxs⟩ := hrow (ua % 12) hA
  obtain ⟨cy, cys⟩ := hrow (ub % 12) hB
  obtain ⟨⟨nx1, nx6⟩, hsx⟩ := rows_said _ hA
  obtain ⟨⟨ny1, ny6⟩, hsy⟩ := rows_said _ hB
  have cx2 := cxs (ub % (levRows.getD (ua % 12) []).length) (Nat.mod_lt _ (by omega))
  have cy2 := cys (ua % (levRows.getD (ub % 12) []).length) (Nat.mod_lt _ (by omega))
  obtain ⟨lx, rx'⟩ := hsx (ub % (levRows.getD (ua % 12) []).length) (Nat.mod_lt _ (by omega))
  obtain ⟨ly, _⟩ := hsy (ua % (levRows.getD (ub % 12) []).length) (Nat.mod_lt _ (by omega))
  clear cxs cys hrow hsx hsy
  generalize (levRows.getD (ua % 12) []) = rx at *
  generalize (levRows.getD (ub % 12) []) = ry at *
  have hlx : 0 ≤ ub % rx.length ∧ ub % rx.length < rx.length := ⟨Nat.zero_le _, Nat.mod_lt _ (by omega)⟩
  have hly : 0 ≤ ua % ry.length ∧ ua % ry.length < ry.length := ⟨Nat.zero_le _, Nat.mod_lt _ (by omega)⟩
  generalize rx.getD (ub % rx.length) default = sx at *
  generalize ry.getD (ua % ry.length) default = sy at *
  generalize rx.length = nx at *
  generalize ry.length = ny at *
  have HLX := Lib.hid lx
  have HLY := Lib.hid ly
  have HRX := Lib.hid rx'
  clear lx ly rx'
  go_quiet (fail)
  have HX : Hid (((levB sx : Nat) : Int) = (ua : Int) % 12 + 1) := Lib.hid (by rw [HLX.out]; omega)
  have HY : Hid (((levB sy : Nat) : Int) = (ub : Int) % 12 + 1) := Lib.hid (by rw [HLY.out]; omega)
  have HR : Hid (rightB sx = ((ua : Int) % 12 == 11)) := Lib.hid (by
    rw [HRX.out, Bool.eq_iff_iff]
    simp
    omega)
  clear cx cy cx2 cy2 hlx hly nx1 nx6 ny1 ny6 hA hB
  have hX0 : 0 ≤ (ua : Int) % 12 := by omega
  have hX1 : (ua : Int) % 12 < 12 := by omega
  have hY0 : 0 ≤ (ub : Int) % 12 := by omega
  have hY1 : (ub : Int) % 12 < 12 := by omega
  have hj11 : ub % 11 < 11 := Nat.mod_lt _ (by decide)
  have HO := Lib.hid (others_no_op a (ub % 11) hj11)
  generalize hXe : (ua : Int) % 12 = X at *
  generalize hYe : (ub : Int) % 12 = Y at *
  clear hXe hYe
  go_wp2_with fail
  refine (decimal_any a HA9.out.1 HA9.out.2 _).mono ?_
  rintro e w2 ⟨rfl, hb2⟩
  have hbw2 : Below w.heap.size w w2 := by
    refine Below.call (w1 := W.drewN nq) ?_ hb2
    exact below_drewN hbW _
  have co : (w2.alloc (.cells ((othersL (decB a)).map Value.string).toArray 9)).cell? ⟨w2.heap.size, ub % 11, none⟩ = some (.string ((othersL (decB a)).getD (ub % 11) default)) := cells_newS w2 _ _ _ hj11
  have hbw3 : Below w.heap.size w (w2.alloc (.cells ((othersL (decB a)).map Value.string).toArray 9)) := hbw2.alloc hbw2.size _
  have hW3 : (w2.alloc (.cells ((othersL (decB a)).map Value.string).toArray 9)) = w2.alloc (.cells #[.string ⟨#[]⟩, .string ⟨#[61]⟩, .string ⟨#[43, 61]⟩, .string ⟨#[33]⟩, .string ⟨#[126]⟩, .string ⟨#[61, 62]⟩, .string ⟨#[63]⟩, .string ⟨#[46]⟩, .string ⟨#[111, 102]⟩, .string ⟨#[43, 43]⟩, .string ⟨(decB a).toArray⟩] 9) := rfl
  rw [hW3] at co hbw3
  clear hW3
  generalize (othersL (decB a)).getD (ub % 11) default = so at *
  have HBW := Lib.hid hbw3
  clear hbw3 hbw2 hb2
  have e1 : (X + 1 == Y + 1) = (X == Y) := by
    rw [Bool.eq_iff_iff]
    simp
  rcases Int.lt_trichotomy X Y with hlt | rfl | hgt
  all_goals
    go_wp2_with fail
    refine (level_is sx _ HX.out).mono ?_
    rintro e w3 ⟨rfl, rfl⟩
    go_wp2_with fail
    refine (level_is sy _ HY.out).mono ?_
    rintro e w3 ⟨rfl, rfl⟩
    go_wp2_with fail
    refine (level_is sx _ HX.out).mono ?_
    rintro e w3 ⟨rfl, rfl⟩
    go_wp2_with fail
    refine (level_is sy _ HY.out).mono ?_
    rintro e w3 ⟨rfl, rfl⟩
    go_wp2_with fail
    refine (level_is so (x := 0) _ (by rw [HO.out]; rfl)).mono ?_
    rintro e w3 ⟨rfl, rfl⟩
    go_wp2_with fail
    refine (right_is sx _ HR.out).mono ?_
    rintro e w3 ⟨rfl, rfl⟩
    go_wp2_with fail
    refine (level_is sx _ HX.out).mono ?_
    rintro e w3 ⟨rfl, rfl⟩
    go_wp2_with fail
    go_ret
    exact ⟨rfl, HBW.out⟩
theorem u64_nat (a : Int) : ∃ u : Nat, IntKind.u64.wrap a = (u : Int) := by
  refine ⟨(IntKind.u64.wrap a).toNat, ?_⟩
  rw [IntKind.wrap_u64]
  omega
theorem i64_range {a : Int} (w : (Lit.int .i64 a).wf = true) : -9223372036854775808 ≤ a ∧ a ≤ 9223372036854775807 := by
  simpa [Lit.wf, IntKind.min, IntKind.max, IntKind.signed, IntKind.bits] using w
theorem wordLevels_call (a b : Int) (w : World) (wa : (Lit.int .i64 a).wf = true) (wb : (Lit.int .i64 b).wf = true) :
    Calls Try.prog 4 #[.int .i64 a, .int .i64 b] w fun e w' => e = .returned (.bool true) ∧ Below w.heap.size w w' := by
  obtain ⟨ua, hua⟩ := u64_nat a
  obtain ⟨ub, hub⟩ := u64_nat b
  obtain ⟨h1, h2⟩ := i64_range wa
  exact wordLevels_core a b h1 h2 ua ub hua hub w

theorem ownKnob_none : ownKnob Try.prog.godebug = none := by kernel_rfl

/-- What the walk gives, for every argument. -/
theorem wordLevels_contract (H : Type) (enc : TypeId × Value → H) (W : World) (base : Nat) (args : Array Value) (ds gs : List (DataW H)) (before : List MemPlace)
    (hval : ∀ (j : Nat) t v, Try.f4.params[j]? = some t → args[j]? = some v → Value.okWide Try.prog W .any base t v)
    (hW : DataW.Whole enc Try.prog Try.f4.params.toList Rows.wordLevelsSpec.vars false W args.toList ds gs before)
    (hsz : (DataW.weightsEach Try.prog (Try.f4.params.toList ++ Rows.wordLevelsSpec.plain.varTypes Try.prog) (ds ++ gs)).all (· ≤ reachBytes) = true) :
    Calls Try.prog 4 args W fun e W' => ∃ v, e = .returned v ∧ Rows.wordLevelsSpec.post enc Try.prog Try.f4 false true false false W args v W' := by
  have hW' := hW
  obtain ⟨p, q, hA0, hV, rfl, hfz, hnd⟩ := hW
  have hA : DataW.TrodAll enc Try.prog W 0 (fun _ => true) true Try.f4.params.toList args.toList ds p := hA0
  rw [Try.params4] at hA hval hsz
  obtain ⟨v0, vs0, d0, ds0, p0, q0, hargs, rfl, rfl, h0, r0⟩ := trodAll_cons hA
  obtain ⟨v1, vs1, d1, ds1, p1, q1, rfl, rfl, rfl, h1, r1⟩ := trodAll_cons r0
  obtain ⟨rfl, rfl, rfl⟩ := trodAll_nil r1
  obtain rfl : args = #[v0, v1] := by cases args; simp_all
  obtain ⟨rfl, rfl⟩ := trodVars_none hV
  obtain ⟨a0, rfl, rfl, rfl, w0⟩ := open_int Try.underlying3 (hval 0 3 v0 rfl rfl) h0
  obtain ⟨a1, rfl, rfl, rfl, w1⟩ := open_int Try.underlying3 (hval 1 3 v1 rfl rfl) h1
  clear hA0 hval
  refine (wordLevels_call a0 a1 W w0 w1).mono fun e W' ⟨he, hb⟩ => ?_
  subst he
  exact ⟨_, rfl, law_post (pa := []) (pv := []) Try.underlying4 (by kernel_rfl) hW' rfl (fun sp _ => (trodAll_cons_mk (shut_int Try.underlying3 w0) (trodAll_cons_mk (shut_int Try.underlying3 w1) trodAll_mk0))) (fun _ _ => rfl) hb⟩

theorem wordLevels_lifted (os : Os) (started : os.Started) (H : Type) (enc : TypeId × Value → H) :
    ReturnsInHanded {} Try.checked os 4 .any (Rows.wordLevelsSpec.pre6 enc Try.prog Try.f4 Rows.wordLevelsRow.domain false) (Rows.wordLevelsSpec.post enc Try.prog Try.f4 false true false false) := by
  refine returnsInHanded_of_change_sized (C := Try.checked) ownKnob_none started (by kernel_rfl) Try.func4
    (ChangeSpec.witness6 (enc := enc) (C := Try.checked) false ⟨#[], #[.int .i64 0, .int .i64 0], []⟩ 8 (by kernel_rfl) (by kernel_rfl) (by kernel_rfl) (by kernel_rfl)) ?_
  intro W base args ds gs before hval hW _ hsz _
  exact wordLevels_contract H enc W base args ds gs before hval hW hsz

/-- THE STATEMENT. -/
theorem wordLevels_holds : Rows.WordLevelsSaid :=
  OpenClaim.holds_of_wide 4 Try.f4 rfl rfl rfl rfl rfl rfl rfl ⟨rfl, rfl, rfl, rfl, rfl⟩ rfl rfl rfl rfl rfl (by kernel_rfl) Try.func4 (by kernel_rfl)
    (of_decide_eq_true (by kernel_rfl)) (by unfold Func.isWrapper; first | (rw [if_pos (by decide +kernel)]; kernel_rfl) | (rw [if_neg (by decide +kernel)]; exact ⟨rfl, rfl⟩))
    (fun os started H enc _ => wordLevels_lifted os started H enc)
#print axioms wordLevels_holds
end Go.Proofs.Ytidekaeccillhaa
