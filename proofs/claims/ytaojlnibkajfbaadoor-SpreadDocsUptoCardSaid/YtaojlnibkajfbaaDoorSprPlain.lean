/- Package spread in plain Lean. -/
import Derived.Test.YtaojlnibkajfbaaDoorDocFlat
namespace Go.Proofs.YtaojlnibkajfbaaDoor
open Go.RowKit

/-- Must what is around break, for the kids' sake? -/
def mustL (k : Int) (l : List Bool) : Bool := if k = 8 then l.headD false else l.any id
/-- A document's Break, and whether what is around it must break. -/
def sprBrk (told : Bool) (k : Int) (b m : Bool) : Bool := if k = 7 then b || (told && m) else b
def sprOut (told : Bool) (k : Int) (b m : Bool) : Bool := if k = 5 ∨ k = 6 ∨ k = 16 then true else if k = 7 then b || (told && m) else if k = 8 then m || b else if k = 14 then false else m
mutual
/-- What Spread makes of a document, and whether what is around it must break. -/
def Doc.spr (told : Bool) : Doc → Doc × Bool
  | .mk k t ks b i y => (.mk k t ((sprL told ks).map Prod.fst) (sprBrk told k b (mustL k ((sprL told ks).map Prod.snd))) i y, sprOut told k b (mustL k ((sprL told ks).map Prod.snd)))
def sprL (told : Bool) : List Doc → List (Doc × Bool)
  | [] => []
  | d :: ds => d.spr told :: sprL told ds
end
theorem sprL_map (told : Bool) (ks : List Doc) : sprL told ks = ks.map (Doc.spr told) := by
  induction ks with
  | nil => rfl
  | cons d ds ih => rw [sprL, ih]; rfl
def Doc.sprD (told : Bool) (d : Doc) : Doc := (d.spr told).1
def Doc.must (told : Bool) (d : Doc) : Bool := (d.spr told).2
def Doc.kidsMust (told : Bool) (d : Doc) : Bool := mustL d.kind (d.kids.map (Doc.must told))
theorem Doc.sprD_eq (told : Bool) (d : Doc) : d.sprD told = .mk d.kind d.text (d.kids.map (Doc.sprD told)) (sprBrk told d.kind d.brk (d.kidsMust told)) d.id d.width := by
  cases d with
  | mk k t ks b i y =>
    show (Doc.spr told (.mk k t ks b i y)).1 = _
    rw [Doc.spr, sprL_map]
    simp only [List.map_map]
    rfl
theorem Doc.must_eq (told : Bool) (d : Doc) : d.must told = sprOut told d.kind d.brk (d.kidsMust told) := by
  cases d with
  | mk k t ks b i y =>
    show (Doc.spr told (.mk k t ks b i y)).2 = _
    rw [Doc.spr, sprL_map]
    simp only [List.map_map]
    rfl
theorem mustL_snoc (k : Int) (l : List Bool) (m : Bool) : mustL k (l ++ [m]) = (mustL k l || (m && (decide (k ≠ 8) || decide (l.length = 0)))) := by
  unfold mustL
  by_cases hk : k = 8
  · rw [if_pos hk, if_pos hk]
    cases l with
    | nil => simp [hk]
    | cons x xs => simp [hk]
  · rw [if_neg hk, if_neg hk]
    simp [hk]
end Go.Proofs.YtaojlnibkajfbaaDoor
