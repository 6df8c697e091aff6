/- Package regex in plain Lean: a fault's number is never nought; what RegexJoins says of Check. -/
import Derived.Test.YtnbadnmmolagfaaDoorRegJoinR
import Derived.Test.YtnbadnmmolagfaaDoorRegAwake
namespace Go.Proofs.YtnbadnmmolagfaaDoor
set_option linter.unusedVariables false
set_option linter.unusedSimpArgs false

def NZ {α : Type} (x : Except Flt α) : Prop := ∀ f, x = .error f → f.1 ≠ 0
theorem NZ.ok {α : Type} (a : α) : NZ (.ok a : Except Flt α) := by intro f h; cases h
theorem NZ.err {α : Type} {f : Flt} (h : f.1 ≠ 0) : NZ (.error f : Except Flt α) := by intro g hg; injection hg with hg; rw [← hg]; exact h
theorem NZ.form {α : Type} (r : Ln) : NZ (.error (form r) : Except Flt α) := NZ.err (by show (400 : Nat) ≠ 0; decide)
theorem NZ.bind {α β : Type} {x : Except Flt α} {f : α → Except Flt β} (h : NZ x) (k : ∀ a, NZ (f a)) : NZ (x >>= f) := by
  cases x with
  | error e => intro g hg; have : (.error e : Except Flt β) = .error g := hg; injection this with this; rw [← this]; exact h e rfl
  | ok a => exact k a
theorem nz_take (r : Ln) : NZ (takeL r) := by unfold takeL; split <;> first | exact NZ.ok _ | exact NZ.form _
theorem nz_want (w r : Ln) : NZ (wantL w r) := by unfold wantL; split <;> first | exact NZ.ok _ | exact NZ.form _
theorem nz_digits (r : Ln) : NZ (digitsL r) := by unfold digitsL; split <;> first | exact NZ.ok _ | exact NZ.form _
theorem nz_braces (r r1 : Ln) : NZ (bracesL r r1) := by
  unfold bracesL
  refine NZ.bind (nz_digits _) fun ⟨a, b⟩ => ?_
  simp only []
  split
  · split
    · refine NZ.bind (nz_digits _) fun ⟨c, d⟩ => NZ.bind (nz_want _ _) fun _ => ?_
      simp only []
      split
      · exact NZ.err (by simp)
      · exact NZ.ok _
    · exact NZ.bind (nz_want _ _) fun _ => NZ.ok _
  · exact NZ.bind (nz_want _ _) fun _ => NZ.ok _
theorem nz_quant (r : Ln) : NZ (quantL r) := by
  unfold quantL
  split
  · exact NZ.ok _
  · split
    · exact nz_braces _ _
    · exact NZ.ok _
theorem nz_name (r : Ln) : NZ (nameL r) := by
  unfold nameL
  simp only []
  split
  · exact NZ.form _
  · exact NZ.bind (nz_want _ _) fun _ => NZ.ok _
theorem nz_prop : ∀ (f : Nat) (r : Ln), NZ (propR f r)
  | 0, r => NZ.form _
  | f + 1, r => by
    unfold propR
    split
    · exact NZ.ok _
    · cases h : takeL r with
      | error e => exact NZ.err (nz_take r e h)
      | ok p => exact nz_prop f _
theorem nz_set (u : Bool) (r : Ln) : NZ (setL u r) := by
  unfold setL
  split
  · exact NZ.ok _
  · split
    · refine NZ.bind (nz_want _ _) fun a => NZ.bind (nz_prop _ _) fun b => ?_
      split
      · exact NZ.ok _
      · exact NZ.err (by simp)
    · exact NZ.ok _
theorem nz_hexes : ∀ (k x : Nat) (r : Ln), NZ (hexesL k x r)
  | 0, x, r => NZ.ok _
  | k + 1, x, r => by
    unfold hexesL
    cases hexL (peekL r) with
    | none => exact NZ.form _
    | some v => exact nz_hexes k _ _
theorem nz_braced (r : Ln) : NZ (bracedL r) := by
  unfold bracedL
  refine NZ.bind (nz_hexes _ _ _) fun ⟨a, b⟩ => ?_
  simp only []
  split
  · exact NZ.form _
  · exact NZ.ok _
theorem nz_escape (u : Bool) (r : Ln) : NZ (escapeL u r) := by
  unfold escapeL
  refine NZ.bind (nz_take _) fun ⟨c, r1⟩ => ?_
  simp only []
  split
  · split
    · exact NZ.ok _
    · exact NZ.form _
  · split
    · split
      · exact NZ.form _
      · exact NZ.ok _
    · split
      · exact nz_hexes _ _ _
      · split
        · split
          · exact nz_braced _
          · exact nz_hexes _ _ _
        · cases simpleL c with
          | some x => exact NZ.ok _
          | none =>
            show NZ (idleL u r c r1)
            unfold idleL
            split
            · exact NZ.form _
            · exact NZ.ok _
theorem nz_point (u : Bool) (r : Ln) : NZ (pointL u r) := by
  unfold pointL
  split
  · split
    · exact NZ.ok _
    · split
      · exact NZ.ok _
      · refine NZ.bind (nz_set _ _) fun o => ?_
        cases o with
        | some q => exact NZ.ok _
        | none => exact NZ.bind (nz_escape _ _) fun _ => NZ.ok _
  · exact NZ.bind (nz_take _) fun _ => NZ.ok _
theorem nz_next (u : Bool) (h : Option Pt) (r : Ln) : NZ (ptNext u h r) := by
  cases h with
  | some p => exact NZ.ok _
  | none =>
    unfold ptNext
    refine NZ.bind (nz_point _ _) fun ⟨p, r1⟩ => ?_
    simp only []
    split <;> exact NZ.ok _
theorem nz_classR (u : Bool) : ∀ (f : Nat) (h : Option Pt) (r : Ln), NZ (classR u f h r)
  | 0, h, r => NZ.form _
  | f + 1, h, r => by
    unfold classR
    split
    · exact NZ.ok _
    · cases hn : ptNext u h r with
      | error e => exact NZ.err (nz_next u h r e hn)
      | ok x =>
        obtain ⟨a, h1, r1⟩ := x
        simp only []
        split
        · exact nz_classR u f _ _
        · cases hn2 : ptNext u none (r1.drop 1) with
          | error e => exact NZ.err (nz_next u none _ e hn2)
          | ok y =>
            obtain ⟨b, h2, r2⟩ := y
            simp only []
            split
            · exact NZ.err (by simp)
            · exact nz_classR u f _ _
theorem nz_class (u : Bool) (r : Ln) : NZ (classL u r) := nz_classR u _ _ _
theorem nz_group {pat : St → Except Flt St} (h : ∀ s, NZ (pat s)) (s : St) : NZ (groupS pat s) := by
  unfold groupS
  exact NZ.bind (h _) fun _ => NZ.bind (nz_want _ _) fun _ => NZ.ok _
theorem nz_escaped (u : Bool) (s : St) : NZ (escapedS u s) := by
  unfold escapedS
  simp only []
  split
  · exact NZ.bind (nz_digits _) fun _ => NZ.ok _
  · split
    · exact NZ.bind (nz_want _ _) fun _ => NZ.bind (nz_name _) fun _ => NZ.ok _
    · refine NZ.bind (nz_set _ _) fun o => ?_
      cases o with
      | some q => exact NZ.ok _
      | none => exact NZ.bind (nz_escape _ _) fun _ => NZ.ok _
theorem nz_atom (u : Bool) {pat : St → Except Flt St} (h : ∀ s, NZ (pat s)) (s : St) : NZ (atomS u pat s) := by
  unfold atomS
  split
  · exact nz_group h _
  · split
    · refine NZ.bind (nz_name _) fun ⟨t, r1⟩ => ?_
      simp only []
      split
      · exact NZ.err (by simp)
      · exact nz_group h _
    · split
      · exact nz_group h _
      · split
        · exact NZ.bind (nz_class _ _) fun _ => NZ.ok _
        · split
          · exact nz_escaped _ _
          · split
            · exact NZ.form _
            · exact NZ.bind (nz_take _) fun _ => NZ.ok _
theorem nz_term (u : Bool) {pat : St → Except Flt St} (h : ∀ s, NZ (pat s)) (s : St) : NZ (termS u pat s) := by
  unfold termS
  split
  · exact NZ.ok _
  · split
    · exact NZ.ok _
    · split
      · exact NZ.ok _
      · split
        · exact NZ.ok _
        · split
          · exact nz_group h _
          · split
            · exact nz_group h _
            · split
              · exact nz_group h _
              · split
                · exact nz_group h _
                · exact NZ.bind (nz_atom u h s) fun _ => NZ.bind (nz_quant _) fun _ => NZ.ok _
theorem nz_pat (u : Bool) : ∀ (f : Nat) (s : St), NZ (patF u f s)
  | 0, s => NZ.form _
  | f + 1, s => by
    unfold patF
    split
    · exact NZ.ok _
    · split
      · exact nz_pat u f _
      · split
        · exact NZ.ok _
        · cases ht : termS u (patF u f) s with
          | error e => exact NZ.err (nz_term u (nz_pat u f) s e ht)
          | ok s1 => exact nz_pat u f _
theorem nz_settle (g : Ln) (nm : List (Ln × Nat)) : ∀ (f : Nat) (nu nd : List (Nat × Ln)), NZ (settleF g nm f nu nd)
  | 0, nu, nd => NZ.ok _
  | f + 1, [], [] => NZ.ok _
  | f + 1, a :: nu, nd => by
    unfold settleF
    split
    · split
      · exact NZ.err (by simp)
      · exact nz_settle g nm f _ _
    · split
      · exact NZ.err (by simp)
      · exact nz_settle g nm f _ _
  | f + 1, [], b :: nd => by
    unfold settleF
    split
    · split
      · exact NZ.err (by simp)
      · exact nz_settle g nm f _ _
    · split
      · exact NZ.err (by simp)
      · exact nz_settle g nm f _ _
theorem nz_body (u : Bool) (l : Ln) : NZ (bodyL u l) := by
  unfold bodyL
  refine NZ.bind (nz_pat _ _ _) fun s => ?_
  split
  · exact NZ.form _
  · exact nz_settle _ _ _ _ _
/-- A pattern that may be. -/
theorem check_good {l fl : Ln} (h : (checkN l fl).2 = 0) : ∃ s, flagsN fl 0 = some s ∧ l.length ≤ 4096 ∧ l ≠ [] ∧ bodyL (s / 32 % 2 == 1) l = .ok () := by
  unfold checkN at h
  cases hf : flagsN fl 0 with
  | none => rw [hf] at h; cases h
  | some s =>
    rw [hf] at h
    simp only [] at h
    split at h
    · cases h
    · rename_i h1
      split at h
      · cases h
      · rename_i h2
        refine ⟨s, rfl, by omega, h2, ?_⟩
        cases hb : bodyL (s / 32 % 2 == 1) l with
        | error f =>
          rw [hb] at h
          exact absurd h (nz_body _ _ f hb)
        | ok u => rfl
theorem check_of {l fl : Ln} {s : Nat} (hf : flagsN fl 0 = some s) (hl : l.length ≤ 4096) (h0 : l ≠ []) (h : bodyL (s / 32 % 2 == 1) l = .ok ()) : checkN l fl = (0, 0) := by
  unfold checkN
  rw [hf]
  simp only []
  rw [if_neg (by omega), if_neg h0, h]
/-- WHAT RegexJoins SAYS. -/
theorem joins_are {a b fl : Ln} (pa : plainB a = true) (pb : plainB b = true) (ha : (checkN a fl).2 = 0) (hb : (checkN b fl).2 = 0) (hl : a.length + b.length + 9 ≤ 4096) :
    checkN (a ++ 124 :: b) fl = (0, 0) ∧ checkN (40 :: (a ++ [41, 42])) fl = (0, 0) ∧ checkN (40 :: 63 :: 61 :: (a ++ 41 :: (40 :: 63 :: 58 :: (b ++ [41, 63])))) fl = (0, 0) := by
  obtain ⟨s, hf, _, h0, ba⟩ := check_good ha
  obtain ⟨s', hf', _, _, bb⟩ := check_good hb
  obtain rfl : s = s' := by rw [hf] at hf'; injection hf'
  have wa := whole_of ba pa
  have wb := whole_of bb pb
  refine ⟨check_of hf (by simp; omega) (by simp) (join_bar wa wb), check_of hf (by simp; omega) (by simp) (join_group wa), check_of hf (by simp; omega) (by simp) (join_ahead wa wb)⟩
end Go.Proofs.YtnbadnmmolagfaaDoor
