/- EditsOne: the walk's part: puts. -/
import Derived.Test.YtakolehlaejhfaaEdBack
namespace Go.Proofs.Ytakolehlaejhfaa
open Go.RowKit
set_option maxRecDepth 100000
set_option linter.unusedVariables false
set_option linter.unusedSimpArgs false

def putsB (es : List Ed) : Int := (es.map fun e => (e.put.length : Int)).sum
theorem putsB_snoc (es : List Ed) (e : Ed) : putsB (es ++ [e]) = putsB es + (e.put.length : Int) := by simp [putsB]
theorem putsB_bd : ∀ (es : List Ed), (∀ e ∈ es, e.put.length ≤ 2000000) → 0 ≤ putsB es ∧ putsB es ≤ 2000000 * es.length
  | [], _ => by simp [putsB]
  | e :: es, h => by
    have h1 := putsB_bd es (fun x hx => h x (by simp [hx]))
    have h2 := h e (by simp)
    simp only [putsB, List.map_cons, List.sum_cons, List.length_cons] at h1 ⊢
    omega
set_option maxHeartbeats 1000000 in
theorem puts_any (A : Option Addr) (c : Nat) (es : List Ed) (lo hi : Nat) (w : World) (hE : EdsAt w lo hi A es) (hb : ∀ e ∈ es, e.put.length ≤ 2000000) (hl : es.length ≤ 2000000) :
    Calls Try.prog 21 #[.slice A es.length c] w fun e w' => e = .returned (.int .i64 (putsB es)) ∧ w = w' := by
  have HE := Lib.hid hE
  have HB := Lib.hid hb
  clear hE hb
  go_enter Try.func21, Try.ntmps21
  go_wp2_with fail
  go_loop [3, 4] (fun s i => ∃ j : Nat, j ≤ es.length ∧ i = .int .i64 (j : Int) ∧ s = .int .i64 (putsB (es.take j))) (fun _ i => es.length - (intOf i).toNat)
  case atStart => exact ⟨0, Nat.zero_le _, rfl, by simp [putsB]⟩
  case round =>
    obtain ⟨j, hj, rfl, rfl⟩ := hrel
    have hbd := putsB_bd (es.take j) (fun e he => HB.out e (List.mem_of_mem_take he))
    have hln : ((es.take j).length : Int) ≤ 2000000 := by rw [List.length_take]; omega
    by_cases hlt : j < es.length
    · obtain ⟨b, o, eA, _, _, _, _, P1, p1, k3, hq1, _⟩ := HE.out.at_ hlt
      have hx := HB.out _ (List.getElem_mem hlt)
      have hsn : putsB (es.take (j + 1)) = putsB (es.take j) + ((es[j]'hlt).put.length : Int) := by rw [List.take_succ_eq_append_getElem hlt, putsB_snoc]
      have HSN := Lib.hid hsn
      generalize es[j]'hlt = x at *
      subst eA
      have hji : (j : Int) < (es.length : Int) := by omega
      have h1 : 0 ≤ putsB (es.take j) := hbd.1
      have h2 : putsB (es.take j) ≤ 4000000000000 := by omega
      clear hsn hbd hln
      generalize putsB (es.take j) = S at *
      go_wp2_with fail
      go_round
      case rel => exact ⟨j + 1, by omega, by go_num, by rw [HSN.out]⟩
      case measure => simp [intOf]; omega
    · have hje : j = es.length := by omega
      have hji : (es.length : Int) ≤ (j : Int) := by omega
      have HJ := Lib.hid hje
      clear hje hbd hln
      go_wp2_with fail
      go_ret
      exact ⟨ret_int (by rw [HJ.out, List.take_length]), rfl⟩

end Go.Proofs.Ytakolehlaejhfaa
