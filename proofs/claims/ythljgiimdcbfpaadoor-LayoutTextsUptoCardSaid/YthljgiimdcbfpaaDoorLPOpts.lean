/- An argument that is the options, opened. -/
import Derived.Test.YthljgiimdcbfpaaDoorLPSteps
namespace Go.Proofs.YthljgiimdcbfpaaDoor
open Go.RowKit Go.ChangeShapes Go.WideShapes Go.Deep Go.Joins
set_option maxRecDepth 100000
section
variable {H : Type} {enc : TypeId × Value → H} {w : World}
/-- AN ARGUMENT THAT IS THE OPTIONS. -/
theorem opts_open {v : Value} {d : DataW H} {ps : List MemPlace} {base : Nat} (hv : Value.okWide Tryd.prog w .any base 26 v) (h : DataW.Trod enc Tryd.prog w 0 (fun _ => true) true 26 v d ps) :
    ∃ ov : OptV, v = .agg ov.cells.toArray := by
  obtain ⟨cs, rfl, _⟩ := okWide_struct Tryd.underlying26 hv
  obtain ⟨fuel, hf0⟩ := h
  obtain ⟨ys, fu, hfu, hy, hlen, hyl, hf⟩ := DataW.trod_struct Tryd.underlying26 hf0
  obtain ⟨cs⟩ := cs
  have hlen9 : cs.length = 9 := hlen
  match cs, hlen9, ys, hyl with
  | [c0, c1, c2, c3, c4, c5, c6, c7, c8], _, [y0, y1, y2, y3, y4, y5, y6, y7, y8], _ =>
    have s0 : DataW.trod enc Tryd.prog w 0 (fun _ => true) true fu 3 [c0] = some y0 := hf 0 _ rfl
    have s1 : DataW.trod enc Tryd.prog w 0 (fun _ => true) true fu 3 [c1] = some y1 := hf 1 _ rfl
    have s2 : DataW.trod enc Tryd.prog w 0 (fun _ => true) true fu 4 [c2] = some y2 := hf 2 _ rfl
    have s3 : DataW.trod enc Tryd.prog w 0 (fun _ => true) true fu 4 [c3] = some y3 := hf 3 _ rfl
    have s4 : DataW.trod enc Tryd.prog w 0 (fun _ => true) true fu 4 [c4] = some y4 := hf 4 _ rfl
    have s5 : DataW.trod enc Tryd.prog w 0 (fun _ => true) true fu 4 [c5] = some y5 := hf 5 _ rfl
    have s6 : DataW.trod enc Tryd.prog w 0 (fun _ => true) true fu 4 [c6] = some y6 := hf 6 _ rfl
    have s7 : DataW.trod enc Tryd.prog w 0 (fun _ => true) true fu 4 [c7] = some y7 := hf 7 _ rfl
    have s8 : DataW.trod enc Tryd.prog w 0 (fun _ => true) true fu 4 [c8] = some y8 := hf 8 _ rfl
    obtain ⟨k0, e0, _, _⟩ := DataW.trod_int Tryd.underlying3 s0
    obtain ⟨k1, e1, _, _⟩ := DataW.trod_int Tryd.underlying3 s1
    obtain ⟨k2, e2, _⟩ := DataW.trod_bool Tryd.underlying4 s2
    obtain ⟨k3, e3, _⟩ := DataW.trod_bool Tryd.underlying4 s3
    obtain ⟨k4, e4, _⟩ := DataW.trod_bool Tryd.underlying4 s4
    obtain ⟨k5, e5, _⟩ := DataW.trod_bool Tryd.underlying4 s5
    obtain ⟨k6, e6, _⟩ := DataW.trod_bool Tryd.underlying4 s6
    obtain ⟨k7, e7, _⟩ := DataW.trod_bool Tryd.underlying4 s7
    obtain ⟨k8, e8, _⟩ := DataW.trod_bool Tryd.underlying4 s8
    cases e0; cases e1; cases e2; cases e3; cases e4; cases e5; cases e6; cases e7; cases e8
    exact ⟨⟨⟨k0, k1, k2, k7⟩, k3, k4, k5, k6, k8⟩, rfl⟩
end
end Go.Proofs.YthljgiimdcbfpaaDoor
