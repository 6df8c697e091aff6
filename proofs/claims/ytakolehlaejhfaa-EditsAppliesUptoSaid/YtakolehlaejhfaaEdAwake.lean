/- platenlaw24.awake. -/
import Derived.Test.YtakolehlaejhfaaEdScript2
import Derived.Test.YtakolehlaejhfaaEdApply
import Derived.Test.YtakolehlaejhfaaEdSame
namespace Go.Proofs.Ytakolehlaejhfaa
open Go.RowKit
set_option maxRecDepth 100000
set_option linter.unusedVariables false
set_option linter.unusedSimpArgs false

def wakeEds : List Ed := [⟨1, 1, []⟩, ⟨1, 0, [[100]]⟩]
theorem wake_script : scriptB (linesB [97, 10, 98, 10, 99, 10]) (linesB [97, 10, 99, 10, 100]) = wakeEds := by decide +kernel
theorem wake_apply : applyB (linesB [97, 10, 98, 10]) [⟨1, 1, [[120, 10]]⟩] = some [97, 10, 120, 10] := by decide +kernel
theorem wake_apply2 : applyB (linesB [97]) [] = none := by decide +kernel
/-- What the call hands out, as edits in memory. -/
theorem out_eds {w w' : World} {v : Value} {es : List EdV} (ho : w'.ownsRow w.heap.size 43 3 v es.length (edsCells es)) (hp : ∀ p ∈ es, PutOwn w' w.heap.size p) :
    ∃ A c, v = .slice A es.length c ∧ es.length ≤ c ∧ EdsAt w' w.heap.size w'.heap.size A (es.map (·.1)) := by
  obtain ⟨A, n, c, e⟩ : ∃ A n c, v = .slice A n c := by
    rcases ho.2 with ⟨e, _⟩ | ⟨g, cap, cur, e, _⟩
    · exact ⟨_, _, _, e⟩
    · exact ⟨_, _, _, e⟩
  have hn : n = es.length := by
    rw [e] at ho
    rcases ho.2 with ⟨e, e2⟩ | ⟨g, cap, cur, e, _⟩
    · cases e; exact e2.symm
    · cases e; rfl
  subst hn
  subst e
  obtain ⟨h1, _, h3⟩ := EdsAt.of_own ho (fun p hpm => (hp p hpm).at_ (Nat.le_refl _)) (Nat.le_refl _)
  exact ⟨A, c, rfl, h3, h1⟩

set_option maxHeartbeats 4000000 in
theorem awake_any (w : World) : Calls Try.prog 14 #[] w fun e w' => e = .returned (.bool true) ∧ Below w.heap.size w w' := by
  have HS := Lib.hid (fun w => script_any ⟨#[97, 10, 98, 10, 99, 10]⟩ ⟨#[97, 10, 99, 10, 100]⟩ w (by decide) (by decide) (by decide +kernel) (by decide +kernel))
  go_enter Try.func14, Try.ntmps14
  go_wp2_with fail
  refine (HS.out _).mono ?_
  rintro e w1 ⟨v, es, rfl, hes, hown, hput, hb1⟩
  rw [show scriptB _ _ = wakeEds from wake_script] at hes
  obtain ⟨A1, c1, rfl, hc1, hE1⟩ := out_eds hown hput
  rw [hes] at hE1
  have hl : es.length = 2 := by have := congrArg List.length hes; rw [List.length_map] at this; exact this
  rw [hl]
  have HE1 := Lib.hid hE1
  have HB1 := Lib.hid hb1
  clear hE1 hown hput hes hl hb1 hc1
  go_wp2_with fail
  -- the second call
  obtain ⟨W1, hW1⟩ : ∃ W1, (w1.alloc (.cells #[.string ⟨#[120, 10]⟩] 9)).alloc (.cells #[.int .i64 1, .int .i64 1, .slice (some ⟨w1.heap.size, 0, none⟩) 1 1] 43) = W1 := ⟨_, rfl⟩
  rw [hW1]
  have hz1 : W1.heap.size = w1.heap.size + 2 := by rw [← hW1]; simp
  have hbW1 : Below w1.heap.size w1 W1 := by rw [← hW1]; exact ((Below.refl _ w1).alloc (Nat.le_refl _) _).alloc (by simp) _
  have hk1 : Blk W1 w1.heap.size [.string ⟨#[120, 10]⟩] 9 := by rw [← hW1]; exact (Blk.new w1 _ _).alloc _
  have hk2 : Blk W1 (w1.heap.size + 1) [.int .i64 1, .int .i64 1, .slice (some ⟨w1.heap.size, 0, none⟩) 1 1] 43 := by rw [← hW1]; exact Blk.new' _ _ (by simp)
  have hEa : EdsAt W1 0 W1.heap.size (some ⟨w1.heap.size + 1, 0, none⟩) [⟨1, 1, [[120, 10]]⟩] := by
    intro _
    refine ⟨w1.heap.size + 1, 0, rfl, Nat.zero_le _, by omega, fun j hj => ?_⟩
    obtain rfl : j = 0 := by simpa using hj
    refine ⟨hk2.cell 0, hk2.cell 1, some ⟨w1.heap.size, 0, none⟩, 1, hk2.cell 2, Nat.le_refl _, fun _ => ⟨w1.heap.size, 0, rfl, Nat.zero_le _, by omega, fun i hi => ?_⟩⟩
    obtain rfl : i = 0 := by simpa using hi
    exact hk1.cell 0
  have hv : applyV (applyB (linesB (⟨#[97, 10, 98, 10]⟩ : ByteArray).data.toList) [⟨1, 1, [[120, 10]]⟩]) = .tuple #[.string ⟨#[97, 10, 120, 10]⟩, .int .i64 0] := by
    rw [show applyB _ _ = some [97, 10, 120, 10] from wake_apply]; rfl
  have hA := apply_any ⟨#[97, 10, 98, 10]⟩ (some ⟨w1.heap.size + 1, 0, none⟩) 1 [⟨1, 1, [[120, 10]]⟩] W1 hEa (by decide) (by decide) (by decide) (by simp)
  rw [hv] at hA
  have HA := Lib.hid hA
  have HW1 := Lib.hid hbW1
  clear hA hv hEa hk1 hk2 hbW1 hW1
  refine HA.out.mono ?_
  rintro e w2 ⟨rfl, hb2⟩
  have HB2 := Lib.hid hb2
  clear hb2
  go_wp2_with fail
  have hv2 : applyV (applyB (linesB (⟨#[97]⟩ : ByteArray).data.toList) []) = .tuple #[.string ⟨#[]⟩, .int .i64 2401] := by
    rw [show applyB _ _ = none from wake_apply2]; rfl
  have hA2 := apply_any ⟨#[97]⟩ none 0 [] w2 (EdsAt.nil _ _ _ _) (by decide) (by decide) (by decide) (by simp)
  rw [hv2] at hA2
  refine hA2.mono ?_
  clear hA2 hv2
  rintro e w3 ⟨rfl, hb3⟩
  have HB3 := Lib.hid hb3
  clear hb3
  go_wp2_with (go_at_call 12; refine (num_any _ _).mono ?_; rintro e w9 ⟨rfl, rfl⟩)
  obtain ⟨W3, hW3⟩ : ∃ W3, (w3.alloc (.cells #[.string ⟨#[100]⟩] 9)).alloc (.cells #[.int .i64 1, .int .i64 1, .slice none 0 0, .int .i64 1, .int .i64 0, .slice (some ⟨w3.heap.size, 0, none⟩) 1 1] 43) = W3 := ⟨_, rfl⟩
  rw [hW3]
  have hz3 : W3.heap.size = w3.heap.size + 2 := by rw [← hW3]; simp
  have hbW3 : Below w3.heap.size w3 W3 := by rw [← hW3]; exact ((Below.refl _ w3).alloc (Nat.le_refl _) _).alloc (by simp) _
  have hk1 : Blk W3 w3.heap.size [.string ⟨#[100]⟩] 9 := by rw [← hW3]; exact (Blk.new w3 _ _).alloc _
  have hk2 : Blk W3 (w3.heap.size + 1) [.int .i64 1, .int .i64 1, .slice none 0 0, .int .i64 1, .int .i64 0, .slice (some ⟨w3.heap.size, 0, none⟩) 1 1] 43 := by rw [← hW3]; exact Blk.new' _ _ (by simp)
  have hEb : EdsAt W3 0 W3.heap.size (some ⟨w3.heap.size + 1, 0, none⟩) wakeEds := by
    intro _
    refine ⟨w3.heap.size + 1, 0, rfl, Nat.zero_le _, by omega, fun j hj => ?_⟩
    have hj2 : j = 0 ∨ j = 1 := by
      have : j < 2 := hj
      omega
    rcases hj2 with rfl | rfl
    · exact ⟨hk2.cell 0, hk2.cell 1, none, 0, hk2.cell 2, Nat.le_refl _, TxtAt.nil _ _ _ _⟩
    · refine ⟨hk2.cell 3, hk2.cell 4, some ⟨w3.heap.size, 0, none⟩, 1, hk2.cell 5, Nat.le_refl _, fun _ => ⟨w3.heap.size, 0, rfl, Nat.zero_le _, by omega, fun i hi => ?_⟩⟩
      obtain rfl : i = 0 := by simpa [wakeEds] using hi
      exact hk1.cell 0
  have hb13 : Below w1.heap.size w1 W3 := ((HW1.out.call HB2.out).call HB3.out).call hbW3
  have hEa : EdsAt W3 w.heap.size w1.heap.size A1 wakeEds := HE1.out.below hb13 (Nat.le_refl _)
  have hS := same_eds A1 (some ⟨w3.heap.size + 1, 0, none⟩) c1 2 wakeEds wakeEds _ _ _ _ W3 hEa hEb (by decide) (by decide)
  rw [decide_eq_true (rfl : wakeEds = wakeEds)] at hS
  have HBW := Lib.hid (HB1.out.call hb13)
  have HS2 := Lib.hid hS
  clear hS hEa hEb hb13 hk1 hk2 hbW3 hW3
  refine HS2.out.mono ?_
  rintro e w9 ⟨rfl, n, rfl⟩
  go_wp2_with (go_at_call 12; refine (num_any _ _).mono ?_; rintro e w9 ⟨rfl, rfl⟩)
  go_ret
  exact ⟨rfl, below_drewN HBW.out n⟩
end Go.Proofs.Ytakolehlaejhfaa
