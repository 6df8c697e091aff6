/- Small words on worlds, and what the walks of this seat share: plain lemmas over any program; a walk's region that draws its order, at the class of worlds 'Below'. -/
import Derived.WalkKit
import Derived.Lib.Hide
import Derived.BigQuiet
import Derived.ChangeSame
import Derived.ProofKit
import Derived.OpenShut
namespace Go.Proofs.YtnbadnmmolagfaaDoor
open Go.RowKit Go.WideShapes Go.ChangeShapes

theorem ret_bool {a b : Bool} (h : a = b) : Ending.returned (.bool a) = .returned (.bool b) := by rw [h]
theorem ret_int {k : IntKind} {a b : Int} (h : a = b) : Ending.returned (.int k a) = .returned (.int k b) := by rw [h]
theorem below_drewN {B : Nat} {a w : World} (h : Below B a w) (n : Nat) : Below B a (w.drewN n) := ⟨h.os, h.tape, h.output, h.size, h.block⟩

/-- A contract that says 'Below' of its own world, met in a world of the class. -/
theorem quiet_in {P : Program} {f : FuncId} {args : Array Value} {B : Nat} {w w1 : World} {v : Value}
    (h : Calls P f args w1 fun e w' => e = .returned v ∧ Below w1.heap.size w1 w') (hB : B ≤ w.heap.size) (hb : Below B w w1) :
    Calls P f args w1 fun e w'' => e = .returned v ∧ Below B w w'' :=
  h.mono fun _ _ ⟨he, hk⟩ => ⟨he, hb.trans (hk.mono (Nat.le_trans hB hb.size))⟩

/-- A call behind what has been done. -/
theorem _root_.Go.RowKit.Below.call {B : Nat} {w w1 w2 : World} (h : Below B w w1) (k : Below w1.heap.size w1 w2) (hB : B ≤ w.heap.size := by exact Nat.le_refl _) : Below B w w2 := h.trans (k.mono (Nat.le_trans hB h.size))
/-- A new block, then a call. -/
theorem _root_.Go.RowKit.Below.ac {B : Nat} {w w1 w2 : World} {o : Obj} (h : Below B w w1) (k : Below (w1.alloc o).heap.size (w1.alloc o) w2) (hB : B ≤ w.heap.size := by exact Nat.le_refl _) : Below B w w2 := (h.alloc (Nat.le_trans hB h.size) o).call k hB

/-- A region that draws its order, at the class 'what lay below B stands'. -/
theorem wp_region_below {P : Program} {id : Nat} {Q : Exit → Act → World → Prop} {a : Act} {w : World} {l : List Oper} (B : Nat) (hm : P.follows .mixedOrders = true) (hB : Region.lexB .any l.toArray = true)
    (h : wpQuiet P l.toArray (fun w' => Below B w w') (fun a' => ∀ w', Below B w w' → Q .normal a' w') l a) : (Code.region id l.toArray true).wp P Q a w :=
  wp_region_quiet (C := fun w' => Below B w w') hm hB (Below.refl B w).drew (by simpa using h)

section
variable {H : Type} {enc : TypeId × Value → H} {P : Program}
/-- THE LAST STEP OF A LAW's ROW: the call handed back true, what lay in memory stands, and what was read (the arguments, the listed variables) reads as it did. -/
theorem law_post {f : Func} {s : ChangeSpec} {apart fresh handsOn again : Bool} {W W' : World} {args : Array Value} {ds gs : List (DataW H)} {pa pv : List MemPlace} {t : TypeId}
    (ht : P.underlying t = some .bool) (hrt : f.resultTypes = #[t])
    (hW : DataW.Whole enc P f.params.toList s.vars apart W args.toList ds gs (pa ++ pv))
    (hres : (s.fn H (ds ++ gs)).results = [.lit (.bool true)])
    (hargs : ∀ sp : Nat → Bool, (∀ p ∈ pa ++ pv, sp p.block = true) → DataW.TrodAll enc P W' 0 sp true f.params.toList args.toList (s.fn H (ds ++ gs)).args pa)
    (hvars : ∀ sp : Nat → Bool, (∀ p ∈ pa ++ pv, sp p.block = true) → DataW.TrodVars enc P W' sp s.vars (s.fn H (ds ++ gs)).vars pv)
    (hb : Below W.heap.size W W') :
    s.post enc P f apart fresh handsOn again W args (.bool true) W' := by
  have lt : ∀ p ∈ pa ++ pv, p.block < W.heap.size := fun p hp => hW.lt p hp
  have old : ∀ p ∈ pa ++ pv, (fun b => decide (b < W.heap.size)) p.block = true := fun p hp => by simpa using lt p hp
  have res : ∀ (b : Nat) (sp : Nat → Bool) (hd : Bool), DataW.TrodAll enc P W' b sp hd f.resultTypes.toList ((Value.bool true).resultList f.resultTypes.size) (s.fn H (ds ++ gs)).results [] := fun b sp hd => by
    rw [hres, hrt]
    exact trodAll_mk1 (shut_bool ht true)
  refine ⟨ds, gs, pa ++ pv, [], pa, pv, hW, res _ _ _, hargs _ old, hvars _ old, World.keptBut_mono (fun p hp => ⟨hp, Or.inr (List.mem_append.1 hp)⟩) (hb.frame (· ∈ pa ++ pv)), fun _ => ?_⟩
  obtain ⟨_, _, _, _, _, hz, hn⟩ := hW
  refine ⟨?_, _, _, ([] ++ pa) ++ pv, ⟨[] ++ pa, pv, trodAll_append (hargs _ (fun _ _ => rfl)) (res _ _ _), hvars _ (fun _ _ => rfl), rfl, ?_, ?_⟩, ?_⟩
  · exact ok_one hrt rfl (okWide_bool_mk ht true)
  · intro b off hp
    have hin : MemPlace.cell b off ∈ pa ++ pv := by simpa using hp
    rw [hb.frozen (lt _ hin)]
    exact hz b off hin
  · intro ha
    simpa using hn ha
  · intro p hp _
    simpa using hp
end
end Go.Proofs.YtnbadnmmolagfaaDoor
