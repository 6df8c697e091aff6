/- WHAT IS PROVED: EditsOne holds for every two texts of together at most 1048572 bytes and every number: a line put in is one line put in, all else is kept; and turned round nothing is put in. Condition: the arguments' bulk is at most 1048576. -/
import Derived.Test.YtakolehlaejhfaaEdOneMain
import Derived.Test.YtakolehlaejhfaaArgs
import Derived.SizedLaws
import Derived.ProofKit
import Derived.OpenShut
import Derived.Deep.DeepHandedRow
import Derived.Lib.LaidTab
namespace Go.Proofs.Ytakolehlaejhfaa
open Go.RowKit Go.ChangeShapes Go.WideShapes Go.ChangeAt
open Go.ChangeMaps (open_string shut_string)
set_option maxRecDepth 100000
set_option linter.unusedVariables false
theorem szl (s : ByteArray) : s.size = s.data.toList.length := by simp
noncomputable def laidWorld (os : Os) : World := World.holding Try.prog os ⟨#[], #[], []⟩
theorem ownKnob_none : ownKnob Try.prog.godebug = none := by kernel_rfl
theorem editsOne_call (x : ByteArray) (z : Int) (y : ByteArray) (w : World) (h : x.size + y.size + 1 ≤ 1048576) :
    Calls Try.prog 6 #[.string x, .int .i64 z, .string y] w fun e w' => e = .returned (.bool true) ∧ Below w.heap.size w w' := by
  have e1 := szl x
  have e2 := szl y
  by_cases h1 : (linesB x.data.toList).length = 0 ∨ 1024 ≤ (linesB x.data.toList).length
  · exact editsOne_none x y z w (by omega) h1
  · have hl : x.data.toList ≠ [] := fun e => by rw [e] at h1; exact h1 (.inl rfl)
    by_cases h2 : x.data.toList.getLast hl ≠ 10 ∨ y.size = 0
    · have := editsOne_open x.data.toList y z w (by omega) (by omega) (by omega) hl h2
      rwa [strOf_list] at this
    · have hy : y.data.toList ≠ [] := fun e => h2 (.inr (by rw [e2, e]; rfl))
      have := editsOne_main x.data.toList y.data.toList z w (by omega) (by omega) (by omega) hl (Classical.not_not.1 fun e => h2 (.inl e)) hy
      rwa [strOf_list, strOf_list] at this

/-- What the walk gives, for every argument. -/
theorem editsOne_contract (H : Type) (enc : TypeId × Value → H) (W : World) (base : Nat) (args : Array Value) (ds gs : List (DataW H)) (before : List MemPlace)
    (hval : ∀ (j : Nat) t v, Try.f6.params[j]? = some t → args[j]? = some v → Value.okWide Try.prog W .any base t v)
    (hW : DataW.Whole enc Try.prog Try.f6.params.toList Rows.editsOneSpec.vars false W args.toList ds gs before)
    (hsz : (DataW.weightsEach Try.prog (Try.f6.params.toList ++ Rows.editsOneSpec.plain.varTypes Try.prog) (ds ++ gs)).all (· ≤ reachBytes) = true) (hc : Rows.uptoSmall H (ds ++ gs) = true) :
    Calls Try.prog 6 args W fun e W' => ∃ v, e = .returned v ∧ Rows.editsOneSpec.post enc Try.prog Try.f6 false true false false W args v W' := by
  have hW' := hW
  obtain ⟨p, q, hA0, hV, rfl, hfz, hnd⟩ := hW
  have hA : DataW.TrodAll enc Try.prog W 0 (fun _ => true) true Try.f6.params.toList args.toList ds p := hA0
  rw [Try.params6] at hA hval hsz
  obtain ⟨v0, vs0, d0, ds0, p0, q0, hargs, rfl, rfl, h0, r0⟩ := trodAll_cons hA
  obtain ⟨v1, vs1, d1, ds1, p1, q1, rfl, rfl, rfl, h1, r1⟩ := trodAll_cons r0
  obtain ⟨v2, vs2, d2, ds2, p2, q2, rfl, rfl, rfl, h2, r2⟩ := trodAll_cons r1
  obtain ⟨rfl, rfl, rfl⟩ := trodAll_nil r2
  obtain rfl : args = #[v0, v1, v2] := by cases args; simp_all
  obtain ⟨rfl, rfl⟩ := trodVars_none hV
  obtain ⟨a0, rfl, rfl, rfl, s0⟩ := open_string Try.underlying9 (hval 0 9 v0 rfl rfl) h0
  obtain ⟨a1, rfl, rfl, rfl, w1⟩ := open_int Try.underlying3 (hval 1 3 v1 rfl rfl) h1
  obtain ⟨a2, rfl, rfl, rfl, s2⟩ := open_string Try.underlying9 (hval 2 9 v2 rfl rfl) h2
  clear hA0 hval
  simp [Rows.uptoSmall, Rows.uptoBulkAll, Rows.uptoBulk] at hc
  have z0 : a0.size + a2.size + 1 ≤ 1048576 := by
    have e := szl a0
    have e' := szl a2
    first | (simp at e e'; omega) | (rw [← ByteArray.toList_eq] at e e'; omega)
  refine (editsOne_call a0 a1 a2 W z0).mono fun e W' ⟨he, hb⟩ => ?_
  subst he
  exact ⟨_, rfl, law_post (pa := []) (pv := []) Try.underlying4 (by kernel_rfl) hW' rfl (fun sp _ => (trodAll_cons_mk (shut_string Try.underlying9 s0) (trodAll_cons_mk (shut_int Try.underlying3 w1) (trodAll_cons_mk (shut_string Try.underlying9 s2) trodAll_mk0)))) (fun _ _ => rfl) hb⟩

theorem editsOne_reads (os : Os) {H : Type} (enc : TypeId × Value → H) : ∃ places, DataW.whole enc Try.prog ((laidWorld os).forCall (fun _ _ => 0) ⟨#[], #[.string ⟨#[]⟩, .int .i64 0, .string ⟨#[]⟩], []⟩).memory Try.f6.params.toList Rows.editsOneSpec.vars false (#[.string ⟨#[]⟩, .int .i64 0, .string ⟨#[]⟩] : Array Value).toList 8 = some ([.lit (.string []), .lit (.int .i64 0), .lit (.string [])], [], places) :=
  ⟨[], by kernel_rfl⟩
theorem editsOne_lifted (os : Os) (started : os.Started) (H : Type) (enc : TypeId × Value → H) (F : Stop.Interp) :
    ReturnsInHanded {} Try.checked os 6 .any ((Rows.OpenSpec.upto Rows.editsOneSpec).preRow enc Try.prog Try.f6 Rows.editsOneUptoRow.domain false Rows.editsOneUptoRow.laid) (((Rows.OpenSpec.upto Rows.editsOneSpec).at F).post enc Try.prog Try.f6 false true false false) := by
  obtain ⟨places, hx⟩ := editsOne_reads os enc
  refine returnsInHanded_of_row (C := Try.checked) (s := (Rows.OpenSpec.upto Rows.editsOneSpec)) ownKnob_none started (by kernel_rfl) Try.func6
    (witness_row_at (enc := enc) (C := Try.checked) false (laidWorld os) #[.string ⟨#[]⟩, .int .i64 0, .string ⟨#[]⟩] rfl (by kernel_rfl) (by kernel_rfl) (by kernel_rfl)
      (OpenSpec.preRow_of_cond 8 hx (by kernel_rfl) (fun k hk => by cases hk; kernel_rfl) (by kernel_rfl) (laidMet_of_run' 8 (by kernel_rfl) (by kernel_rfl)))) ?_
  intro W base args ds gs before hval hW _ hc0 hsz hL _ _
  exact editsOne_contract H enc W base args ds gs before hval hW hsz (hc0 _ rfl)
theorem editsOne_holds : Rows.EditsOneUptoSaid :=
  OpenClaim.holds_of_cond 6 Try.f6 rfl rfl rfl rfl rfl rfl rfl ⟨rfl, rfl, rfl, rfl, rfl⟩ rfl rfl rfl rfl rfl (by kernel_rfl) Try.func6 (by kernel_rfl)
    (of_decide_eq_true (by kernel_rfl)) (by unfold Func.isWrapper; first | (rw [if_pos (by decide +kernel)]; kernel_rfl) | (rw [if_neg (by decide +kernel)]; exact ⟨rfl, rfl⟩))
    (fun os started H enc _ F => by rw [OpenClaim.pre_eq_preRow]; exact editsOne_lifted os started H enc F)
#print axioms editsOne_holds
end Go.Proofs.Ytakolehlaejhfaa
