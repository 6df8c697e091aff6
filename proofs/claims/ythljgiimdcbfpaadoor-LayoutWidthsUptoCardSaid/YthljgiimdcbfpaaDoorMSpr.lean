/- Package spread in plain Lean. -/
import Derived.Test.YthljgiimdcbfpaaDoorMDoc
namespace Go.Proofs.YthljgiimdcbfpaaDoor
section
open Go.RowKit

/-- Must what is around break, for the kids' sake? -/
def mustL (k : Int) (l : List Bool) : Bool := if k = 8 then l.headD false else l.any id
/-- A document's Break, and whether what is around it must break. -/
def sprBrk (told : Bool) (k : Int) (b m : Bool) : Bool := if k = 7 then b || (told && m) else b
def sprOut (told : Bool) (k : Int) (b m : Bool) : Bool := if k = 5 ∨ k = 6 ∨ k = 16 then true else if k = 7 then b || (told && m) else if k = 8 then m || b else if k = 14 then false else m
mutual
/-- What Spread makes of a document, and whether what is around it must break. -/
def Doc.spr (told : Bool) : Doc → Doc × Bool
  | .mk k t ks b i y => (.mk k t ((sprL told ks).map Prod.fst) (sprBrk told k b (mustL k ((sprL told ks).map Prod.snd))) i y, sprOut told k b (mustL k ((sprL told ks).map Prod.snd)))
def sprL (told : Bool) : List Doc → List (Doc × Bool)
  | [] => []
  | d :: ds => d.spr told :: sprL told ds
end
theorem sprL_map (told : Bool) (ks : List Doc) : sprL told ks = ks.map (Doc.spr told) := by
  induction ks with
  | nil => rfl
  | cons d ds ih => rw [sprL, ih]; rfl
def Doc.sprD (told : Bool) (d : Doc) : Doc := (d.spr told).1
def Doc.must (told : Bool) (d : Doc) : Bool := (d.spr told).2
def Doc.kidsMust (told : Bool) (d : Doc) : Bool := mustL d.kind (d.kids.map (Doc.must told))
theorem Doc.sprD_eq (told : Bool) (d : Doc) : d.sprD told = .mk d.kind d.text (d.kids.map (Doc.sprD told)) (sprBrk told d.kind d.brk (d.kidsMust told)) d.id d.width := by
  cases d with
  | mk k t ks b i y =>
    show (Doc.spr told (.mk k t ks b i y)).1 = _
    rw [Doc.spr, sprL_map]
    simp only [List.map_map]
    rfl
theorem Doc.must_eq (told : Bool) (d : Doc) : d.must told = sprOut told d.kind d.brk (d.kidsMust told) := by
  cases d with
  | mk k t ks b i y =>
    show (Doc.spr told (.mk k t ks b i y)).2 = _
    rw [Doc.spr, sprL_map]
    simp only [List.map_map]
    rfl
theorem mustL_snoc (k : Int) (l : List Bool) (m : Bool) : mustL k (l ++ [m]) = (mustL k l || (m && (decide (k ≠ 8) || decide (l.length = 0)))) := by
  unfold mustL
  by_cases hk : k = 8
  · rw [if_pos hk, if_pos hk]
    cases l with
    | nil => simp [hk]
    | cons x xs => simp [hk]
  · rw [if_neg hk, if_neg hk]
    simp [hk]
end

section
open Go.RowKit
set_option maxRecDepth 100000
set_option linter.unusedVariables false
set_option linter.unusedSimpArgs false

def CopIn (told : Bool) (d : Doc) : Prop := ∀ (g off : Nat) (kv : Value) (w : World), Six w g off d kv → g < w.heap.size → KV w 0 w.heap.size d kv → d.bulk ≤ 4194304 →
    Calls Tryd.prog 45 #[.pointer (some ⟨g, off, none⟩), .bool told] w fun e w' => ∃ kv', e = .returned (.tuple #[docV (d.sprD told) kv', .bool (d.must told)]) ∧ KW w' w.heap.size w'.heap.size (d.sprD told) kv' ∧ Below w.heap.size w w'

set_option maxHeartbeats 8000000 in
theorem copied_any (told : Bool) (d : Doc) : CopIn told d := by
  refine Doc.ind (P := CopIn told) (fun d ih => ?_) d
  intro g off kv w h6 hg hk hb
  obtain ⟨a, cap, rfl⟩ := hk.slice
  have hkid := fun j hj => hk.kid (j := j) hj
  have hmem : ∀ j (hj : j < d.kids.length), CopIn told d.kids[j] ∧ (d.kids[j]).bulk ≤ 4194304 := fun j hj => ⟨ih _ (List.getElem_mem hj), by have := Doc.kid_bulk (List.getElem_mem hj); omega⟩
  have hlen : d.kids.length < 4194304 := by have := d.kids_len; omega
  obtain ⟨len, hlen2⟩ : ∃ z, z = d.kids.length := ⟨_, rfl⟩
  rw [← hlen2] at hlen h6
  have HKID := Lib.hid hkid
  have HMEM := Lib.hid hmem
  have HLEN := Lib.hid hlen2
  have H6 := Lib.hid h6
  have g0 := h6.kind
  have g1 := h6.text
  have g2 := h6.kids
  have g3 := h6.brk
  have g4 := h6.id
  have g5 := h6.width
  clear hk hkid hmem ih hlen2 h6
  go_enter Tryd.func45, Tryd.ntmps45
  go_wp2_with fail
  obtain ⟨B0, hB0⟩ : ∃ B0, B0 = w.heap.size := ⟨_, rfl⟩
  obtain ⟨W0, hW0⟩ : ∃ W0, W0 = (w.alloc (.cells (docCells (eDoc 0 []) (.slice none 0 0)).toArray 24)).alloc (.cells (docCells d (.slice none 0 0)).toArray 24) := ⟨_, rfl⟩
  have hst : Blk W0 B0 (docCells (eDoc 0 []) (.slice none 0 0)) 24 ∧ Blk W0 (B0 + 1) (docCells d (.slice none 0 0)) 24 ∧ Below w.heap.size w W0 := by
    rw [hW0]
    exact ⟨(Blk.new' _ _ hB0).alloc _, Blk.new' _ _ (by simp [hB0]), ((Below.refl _ w).alloc (Nat.le_refl _) _).alloc (by simp) _⟩
  have HST := Lib.hid hst
  have HW0 := Lib.hid hW0
  have HB0 := Lib.hid hB0
  clear hst hW0
  rw [← hB0]
  clear hB0
  go_loopw [7, 8, 9, 10, 20] (fun m _ _ _ i wr => ∃ (j : Nat) (l : List (Doc × Value)) (A : Option Addr) (c : Nat), j ≤ len ∧ i = .int .i64 (j : Int) ∧ m = .bool (mustL d.kind ((d.kids.take j).map (Doc.must told))) ∧ l.map Prod.fst = (d.kids.take j).map (Doc.sprD told) ∧
      Blk wr B0 (docCells (eDoc 0 []) (.slice none 0 0)) 24 ∧ Blk wr (B0 + 1) (docCells d (.slice A l.length c)) 24 ∧ RowD false thawX wr (B0 + 2) l (.slice A l.length c) ∧ Below w.heap.size w wr) (fun _ _ _ _ i _ => len - (intOf i).toNat)
  case atStart =>
    have h := HST.out
    rw [HW0.out] at h
    exact ⟨0, [], none, 0, Nat.zero_le _, rfl, by simp [mustL], by simp, h.1, h.2.1, RowD.nil _ _, h.2.2⟩
  case round =>
    obtain ⟨j, l, A, c, hj, rfl, rfl, hl, hb0, hb1, hrow, hbw⟩ := hrel
    have hll : l.length = j := by have := congrArg List.length hl; rw [List.length_map, List.length_map, List.length_take] at this; have := HLEN.out; omega
    have HL := Lib.hid hl
    have HLL := Lib.hid hll
    have HK0 := Lib.hid hb0
    have HK1 := Lib.hid hb1
    have HROW := Lib.hid hrow
    have HBW := Lib.hid hbw
    have hlb : l.length < 4194304 := by omega
    have hB0w : B0 + 1 < wr.heap.size := hb1.lt
    by_cases hlt : j < len
    case neg =>
      have hje : j = len := by omega
      have hjm : (len : Int) ≤ (j : Int) := by omega
      have hD : (d.sprD told).kids = l.map Prod.fst := by
        rw [hl, List.take_of_length_le (by have := HLEN.out; omega), Doc.sprD_eq]
        rfl
      have hm : mustL d.kind ((d.kids.take j).map (Doc.must told)) = d.kidsMust told := by
        rw [List.take_of_length_le (by have := HLEN.out; omega)]
        rfl
      rw [hm]
      obtain ⟨m0, hm0⟩ : ∃ m0, m0 = d.kidsMust told := ⟨_, rfl⟩
      rw [← hm0]
      have hout : d.must told = sprOut told d.kind d.brk m0 := by rw [hm0]; exact Doc.must_eq told d
      have hbr : (d.sprD told).brk = sprBrk told d.kind d.brk m0 := by rw [hm0, Doc.sprD_eq]; rfl
      have hdv : ∀ kv, docV (d.sprD told) kv = .agg #[.int .i64 d.kind, .string d.text, kv, .bool (sprBrk told d.kind d.brk m0), .int .i64 d.id, .int .i64 d.width] := fun kv => by rw [hm0, Doc.sprD_eq]; rfl
      have HD := Lib.hid hD
      have HOUT := Lib.hid hout
      have HDV := Lib.hid hdv
      have gg0 := (hbw.cell (p := ⟨g, off, none⟩) hg).trans g0
      have gg3 := (hbw.cell (p := ⟨g, off + 3, none⟩) hg).trans g3
      have gg2 := (hbw.cell (p := ⟨g, off + 2, none⟩) hg).trans g2
      have b3 := hb1.cell 3
      have f3 := hb1.frozen 3
      simp only [docCells, List.getElem?_cons_zero, List.getElem?_cons_succ] at b3
      clear hD hm hm0 hout hbr hdv hl hll hb0 hb1 hrow hbw hje hlt
      obtain ⟨kk, hkk⟩ : ∃ kk, kk = d.kind := ⟨_, rfl⟩
      rw [← hkk] at gg0
      have HKK := Lib.hid hkk
      have hkc : ((kk == 5) = true ∧ kk = 5) ∨ (((kk == 5) = false ∧ (kk == 6) = true) ∧ kk = 6) ∨ (((kk == 5) = false ∧ (kk == 6) = false ∧ (kk == 16) = true) ∧ kk = 16) ∨ (((kk == 5) = false ∧ (kk == 6) = false ∧ (kk == 16) = false ∧ (kk == 7) = true) ∧ kk = 7) ∨
          (((kk == 5) = false ∧ (kk == 6) = false ∧ (kk == 16) = false ∧ (kk == 7) = false ∧ (kk == 8) = true) ∧ kk = 8) ∨ (((kk == 5) = false ∧ (kk == 6) = false ∧ (kk == 16) = false ∧ (kk == 7) = false ∧ (kk == 8) = false ∧ (kk == 14) = true) ∧ kk = 14) ∨
          (((kk == 5) = false ∧ (kk == 6) = false ∧ (kk == 16) = false ∧ (kk == 7) = false ∧ (kk == 8) = false ∧ (kk == 14) = false) ∧ (kk ≠ 5 ∧ kk ≠ 6 ∧ kk ≠ 16 ∧ kk ≠ 7 ∧ kk ≠ 8 ∧ kk ≠ 14)) := by
        simp only [beq_iff_eq, beq_eq_false_iff_ne, ne_eq]
        omega
      clear hkk
      have HK1' := HK1
      rcases hkc with ⟨e1, ek⟩ | ⟨⟨e1, e2⟩, ek⟩ | ⟨⟨e1, e2, e3⟩, ek⟩ | ⟨⟨e1, e2, e3, e4⟩, ek⟩ | ⟨⟨e1, e2, e3, e4, e5⟩, ek⟩ | ⟨⟨e1, e2, e3, e4, e5, e6⟩, ek⟩ | ⟨⟨e1, e2, e3, e4, e5, e6⟩, ek⟩
      case inl =>
        have HSB : Hid (sprBrk told d.kind d.brk m0 = d.brk) := Lib.hid (by rw [← HKK.out]; unfold sprBrk; rw [if_neg (by omega)])
        have HSO : Hid (sprOut told d.kind d.brk m0 = true) := Lib.hid (by rw [← HKK.out]; unfold sprOut; simp [ek])
        clear ek b3 f3 gg3
        go_upto_region 23 with fail
        have HF1' := HK1.out
        have HF0 := HK0
        have HRW := HROW
        have HBX := HBW
        have HF1 := Lib.hid (show Blk wr (B0 + 1) [.int .i64 d.kind, .string d.text, .slice A l.length c, .bool d.brk, .int .i64 d.id, .int .i64 d.width] 24 from HF1')
        have q0 := HF1.out.cell 0; have q1 := HF1.out.cell 1; have q2 := HF1.out.cell 2; have q3 := HF1.out.cell 3; have q4 := HF1.out.cell 4; have q5 := HF1.out.cell 5
        have r0 := HF0.out.cell 0; have r1 := HF0.out.cell 1; have r2 := HF0.out.cell 2; have r3 := HF0.out.cell 3; have r4 := HF0.out.cell 4; have r5 := HF0.out.cell 5
        have s0 := HF0.out.frozen 0; have s1 := HF0.out.frozen 1; have s2 := HF0.out.frozen 2; have s3 := HF0.out.frozen 3; have s4 := HF0.out.frozen 4; have s5 := HF0.out.frozen 5
        simp only [List.getElem?_cons_zero, List.getElem?_cons_succ] at q0 q1 q2 q3 q4 q5
        simp only [docCells, eDoc, Doc.kind, Doc.text, Doc.brk, Doc.id, Doc.width, List.getElem?_cons_zero, List.getElem?_cons_succ] at r0 r1 r2 r3 r4 r5
        clear HF1'
        go_wp2_with fail
        refine bodyPost_ret (v := .tuple #[.agg #[.int .i64 d.kind, .string d.text, .slice A l.length c, .bool d.brk, .int .i64 d.id, .int .i64 d.width], .bool true]) (by simp [results, Tryd.f45, go_sem, r0, r1, r2, r3, r4, r5]) rfl ⟨.slice A l.length c, by rw [HDV.out, HOUT.out, HSB.out, HSO.out], ?_, ?_⟩
        · have h0 := HB0.out
          refine KG.of thawX_stab (by omega) ?_ (fun b hb hb2 => set6_heap wr B0 b _ _ _ _ _ _ (by omega)) (HRW.out.kw HD.out)
          simp
        · exact set6_below HBX.out B0 _ _ _ _ _ _ (by have := HB0.out; omega)
      case inr.inl =>
        have HSB : Hid (sprBrk told d.kind d.brk m0 = d.brk) := Lib.hid (by rw [← HKK.out]; unfold sprBrk; rw [if_neg (by omega)])
        have HSO : Hid (sprOut told d.kind d.brk m0 = true) := Lib.hid (by rw [← HKK.out]; unfold sprOut; simp [ek])
        clear ek b3 f3 gg3
        go_upto_region 23 with fail
        have HF1' := HK1.out
        have HF0 := HK0
        have HRW := HROW
        have HBX := HBW
        have HF1 := Lib.hid (show Blk wr (B0 + 1) [.int .i64 d.kind, .string d.text, .slice A l.length c, .bool d.brk, .int .i64 d.id, .int .i64 d.width] 24 from HF1')
        have q0 := HF1.out.cell 0; have q1 := HF1.out.cell 1; have q2 := HF1.out.cell 2; have q3 := HF1.out.cell 3; have q4 := HF1.out.cell 4; have q5 := HF1.out.cell 5
        have r0 := HF0.out.cell 0; have r1 := HF0.out.cell 1; have r2 := HF0.out.cell 2; have r3 := HF0.out.cell 3; have r4 := HF0.out.cell 4; have r5 := HF0.out.cell 5
        have s0 := HF0.out.frozen 0; have s1 := HF0.out.frozen 1; have s2 := HF0.out.frozen 2; have s3 := HF0.out.frozen 3; have s4 := HF0.out.frozen 4; have s5 := HF0.out.frozen 5
        simp only [List.getElem?_cons_zero, List.getElem?_cons_succ] at q0 q1 q2 q3 q4 q5
        simp only [docCells, eDoc, Doc.kind, Doc.text, Doc.brk, Doc.id, Doc.width, List.getElem?_cons_zero, List.getElem?_cons_succ] at r0 r1 r2 r3 r4 r5
        clear HF1'
        go_wp2_with fail
        refine bodyPost_ret (v := .tuple #[.agg #[.int .i64 d.kind, .string d.text, .slice A l.length c, .bool d.brk, .int .i64 d.id, .int .i64 d.width], .bool true]) (by simp [results, Tryd.f45, go_sem, r0, r1, r2, r3, r4, r5]) rfl ⟨.slice A l.length c, by rw [HDV.out, HOUT.out, HSB.out, HSO.out], ?_, ?_⟩
        · have h0 := HB0.out
          refine KG.of thawX_stab (by omega) ?_ (fun b hb hb2 => set6_heap wr B0 b _ _ _ _ _ _ (by omega)) (HRW.out.kw HD.out)
          simp
        · exact set6_below HBX.out B0 _ _ _ _ _ _ (by have := HB0.out; omega)
      case inr.inr.inl =>
        have HSB : Hid (sprBrk told d.kind d.brk m0 = d.brk) := Lib.hid (by rw [← HKK.out]; unfold sprBrk; rw [if_neg (by omega)])
        have HSO : Hid (sprOut told d.kind d.brk m0 = true) := Lib.hid (by rw [← HKK.out]; unfold sprOut; simp [ek])
        clear ek b3 f3 gg3
        go_upto_region 23 with fail
        have HF1' := HK1.out
        have HF0 := HK0
        have HRW := HROW
        have HBX := HBW
        have HF1 := Lib.hid (show Blk wr (B0 + 1) [.int .i64 d.kind, .string d.text, .slice A l.length c, .bool d.brk, .int .i64 d.id, .int .i64 d.width] 24 from HF1')
        have q0 := HF1.out.cell 0; have q1 := HF1.out.cell 1; have q2 := HF1.out.cell 2; have q3 := HF1.out.cell 3; have q4 := HF1.out.cell 4; have q5 := HF1.out.cell 5
        have r0 := HF0.out.cell 0; have r1 := HF0.out.cell 1; have r2 := HF0.out.cell 2; have r3 := HF0.out.cell 3; have r4 := HF0.out.cell 4; have r5 := HF0.out.cell 5
        have s0 := HF0.out.frozen 0; have s1 := HF0.out.frozen 1; have s2 := HF0.out.frozen 2; have s3 := HF0.out.frozen 3; have s4 := HF0.out.frozen 4; have s5 := HF0.out.frozen 5
        simp only [List.getElem?_cons_zero, List.getElem?_cons_succ] at q0 q1 q2 q3 q4 q5
        simp only [docCells, eDoc, Doc.kind, Doc.text, Doc.brk, Doc.id, Doc.width, List.getElem?_cons_zero, List.getElem?_cons_succ] at r0 r1 r2 r3 r4 r5
        clear HF1'
        go_wp2_with fail
        refine bodyPost_ret (v := .tuple #[.agg #[.int .i64 d.kind, .string d.text, .slice A l.length c, .bool d.brk, .int .i64 d.id, .int .i64 d.width], .bool true]) (by simp [results, Tryd.f45, go_sem, r0, r1, r2, r3, r4, r5]) rfl ⟨.slice A l.length c, by rw [HDV.out, HOUT.out, HSB.out, HSO.out], ?_, ?_⟩
        · have h0 := HB0.out
          refine KG.of thawX_stab (by omega) ?_ (fun b hb hb2 => set6_heap wr B0 b _ _ _ _ _ _ (by omega)) (HRW.out.kw HD.out)
          simp
        · exact set6_below HBX.out B0 _ _ _ _ _ _ (by have := HB0.out; omega)
      case inr.inr.inr.inr.inr.inl =>
        have HSB : Hid (sprBrk told d.kind d.brk m0 = d.brk) := Lib.hid (by rw [← HKK.out]; unfold sprBrk; rw [if_neg (by omega)])
        have HSO : Hid (sprOut told d.kind d.brk m0 = false) := Lib.hid (by rw [← HKK.out]; unfold sprOut; simp [ek])
        clear ek b3 f3 gg3
        go_upto_region 23 with fail
        have HF1' := HK1.out
        have HF0 := HK0
        have HRW := HROW
        have HBX := HBW
        have HF1 := Lib.hid (show Blk wr (B0 + 1) [.int .i64 d.kind, .string d.text, .slice A l.length c, .bool d.brk, .int .i64 d.id, .int .i64 d.width] 24 from HF1')
        have q0 := HF1.out.cell 0; have q1 := HF1.out.cell 1; have q2 := HF1.out.cell 2; have q3 := HF1.out.cell 3; have q4 := HF1.out.cell 4; have q5 := HF1.out.cell 5
        have r0 := HF0.out.cell 0; have r1 := HF0.out.cell 1; have r2 := HF0.out.cell 2; have r3 := HF0.out.cell 3; have r4 := HF0.out.cell 4; have r5 := HF0.out.cell 5
        have s0 := HF0.out.frozen 0; have s1 := HF0.out.frozen 1; have s2 := HF0.out.frozen 2; have s3 := HF0.out.frozen 3; have s4 := HF0.out.frozen 4; have s5 := HF0.out.frozen 5
        simp only [List.getElem?_cons_zero, List.getElem?_cons_succ] at q0 q1 q2 q3 q4 q5
        simp only [docCells, eDoc, Doc.kind, Doc.text, Doc.brk, Doc.id, Doc.width, List.getElem?_cons_zero, List.getElem?_cons_succ] at r0 r1 r2 r3 r4 r5
        clear HF1'
        go_wp2_with fail
        refine bodyPost_ret (v := .tuple #[.agg #[.int .i64 d.kind, .string d.text, .slice A l.length c, .bool d.brk, .int .i64 d.id, .int .i64 d.width], .bool false]) (by simp [results, Tryd.f45, go_sem, r0, r1, r2, r3, r4, r5]) rfl ⟨.slice A l.length c, by rw [HDV.out, HOUT.out, HSB.out, HSO.out], ?_, ?_⟩
        · have h0 := HB0.out
          refine KG.of thawX_stab (by omega) ?_ (fun b hb hb2 => set6_heap wr B0 b _ _ _ _ _ _ (by omega)) (HRW.out.kw HD.out)
          simp
        · exact set6_below HBX.out B0 _ _ _ _ _ _ (by have := HB0.out; omega)
      case inr.inr.inr.inr.inr.inr =>
        have HSB : Hid (sprBrk told d.kind d.brk m0 = d.brk) := Lib.hid (by rw [← HKK.out]; unfold sprBrk; rw [if_neg (by omega)])
        have HSO : Hid (sprOut told d.kind d.brk m0 = m0) := Lib.hid (by rw [← HKK.out]; unfold sprOut; simp [ek])
        clear ek b3 f3 gg3
        go_upto_region 23 with fail
        have HF1' := HK1.out
        have HF0 := HK0
        have HRW := HROW
        have HBX := HBW
        have HF1 := Lib.hid (show Blk wr (B0 + 1) [.int .i64 d.kind, .string d.text, .slice A l.length c, .bool d.brk, .int .i64 d.id, .int .i64 d.width] 24 from HF1')
        have q0 := HF1.out.cell 0; have q1 := HF1.out.cell 1; have q2 := HF1.out.cell 2; have q3 := HF1.out.cell 3; have q4 := HF1.out.cell 4; have q5 := HF1.out.cell 5
        have r0 := HF0.out.cell 0; have r1 := HF0.out.cell 1; have r2 := HF0.out.cell 2; have r3 := HF0.out.cell 3; have r4 := HF0.out.cell 4; have r5 := HF0.out.cell 5
        have s0 := HF0.out.frozen 0; have s1 := HF0.out.frozen 1; have s2 := HF0.out.frozen 2; have s3 := HF0.out.frozen 3; have s4 := HF0.out.frozen 4; have s5 := HF0.out.frozen 5
        simp only [List.getElem?_cons_zero, List.getElem?_cons_succ] at q0 q1 q2 q3 q4 q5
        simp only [docCells, eDoc, Doc.kind, Doc.text, Doc.brk, Doc.id, Doc.width, List.getElem?_cons_zero, List.getElem?_cons_succ] at r0 r1 r2 r3 r4 r5
        clear HF1'
        go_wp2_with fail
        refine bodyPost_ret (v := .tuple #[.agg #[.int .i64 d.kind, .string d.text, .slice A l.length c, .bool d.brk, .int .i64 d.id, .int .i64 d.width], .bool m0]) (by simp [results, Tryd.f45, go_sem, r0, r1, r2, r3, r4, r5]) rfl ⟨.slice A l.length c, by rw [HDV.out, HOUT.out, HSB.out, HSO.out], ?_, ?_⟩
        · have h0 := HB0.out
          refine KG.of thawX_stab (by omega) ?_ (fun b hb hb2 => set6_heap wr B0 b _ _ _ _ _ _ (by omega)) (HRW.out.kw HD.out)
          simp
        · exact set6_below HBX.out B0 _ _ _ _ _ _ (by have := HB0.out; omega)
      case inr.inr.inr.inr.inl =>
        have HSB : Hid (sprBrk told d.kind d.brk m0 = d.brk) := Lib.hid (by rw [← HKK.out]; unfold sprBrk; rw [if_neg (by omega)])
        have HSO' : Hid (sprOut told d.kind d.brk m0 = (m0 || d.brk)) := Lib.hid (by rw [← HKK.out]; unfold sprOut; simp [ek])
        clear ek b3 f3
        have hmc : m0 = true ∨ m0 = false := by cases m0 <;> simp
        rcases hmc with rfl | rfl
        · have HSO : Hid (sprOut told d.kind d.brk true = true) := Lib.hid (by rw [HSO'.out]; simp)
          go_upto_region 23 with fail
          clear gg3
          have HF1' := HK1.out
          have HF0 := HK0
          have HRW := HROW
          have HBX := HBW
          have HF1 := Lib.hid (show Blk wr (B0 + 1) [.int .i64 d.kind, .string d.text, .slice A l.length c, .bool d.brk, .int .i64 d.id, .int .i64 d.width] 24 from HF1')
          have q0 := HF1.out.cell 0; have q1 := HF1.out.cell 1; have q2 := HF1.out.cell 2; have q3 := HF1.out.cell 3; have q4 := HF1.out.cell 4; have q5 := HF1.out.cell 5
          have r0 := HF0.out.cell 0; have r1 := HF0.out.cell 1; have r2 := HF0.out.cell 2; have r3 := HF0.out.cell 3; have r4 := HF0.out.cell 4; have r5 := HF0.out.cell 5
          have s0 := HF0.out.frozen 0; have s1 := HF0.out.frozen 1; have s2 := HF0.out.frozen 2; have s3 := HF0.out.frozen 3; have s4 := HF0.out.frozen 4; have s5 := HF0.out.frozen 5
          simp only [List.getElem?_cons_zero, List.getElem?_cons_succ] at q0 q1 q2 q3 q4 q5
          simp only [docCells, eDoc, Doc.kind, Doc.text, Doc.brk, Doc.id, Doc.width, List.getElem?_cons_zero, List.getElem?_cons_succ] at r0 r1 r2 r3 r4 r5
          clear HF1'
          go_wp2_with fail
          refine bodyPost_ret (v := .tuple #[.agg #[.int .i64 d.kind, .string d.text, .slice A l.length c, .bool d.brk, .int .i64 d.id, .int .i64 d.width], .bool true]) (by simp [results, Tryd.f45, go_sem, r0, r1, r2, r3, r4, r5]) rfl ⟨.slice A l.length c, by rw [HDV.out, HOUT.out, HSB.out, HSO.out], ?_, ?_⟩
          · have h0 := HB0.out
            refine KG.of thawX_stab (by omega) ?_ (fun b hb hb2 => set6_heap wr B0 b _ _ _ _ _ _ (by omega)) (HRW.out.kw HD.out)
            simp
          · exact set6_below HBX.out B0 _ _ _ _ _ _ (by have := HB0.out; omega)
        · have HSO : Hid (sprOut told d.kind d.brk false = d.brk) := Lib.hid (by rw [HSO'.out]; simp)
          go_upto_region 23 with fail
          clear gg3
          have HF1' := HK1.out
          have HF0 := HK0
          have HRW := HROW
          have HBX := HBW
          have HF1 := Lib.hid (show Blk wr (B0 + 1) [.int .i64 d.kind, .string d.text, .slice A l.length c, .bool d.brk, .int .i64 d.id, .int .i64 d.width] 24 from HF1')
          have q0 := HF1.out.cell 0; have q1 := HF1.out.cell 1; have q2 := HF1.out.cell 2; have q3 := HF1.out.cell 3; have q4 := HF1.out.cell 4; have q5 := HF1.out.cell 5
          have r0 := HF0.out.cell 0; have r1 := HF0.out.cell 1; have r2 := HF0.out.cell 2; have r3 := HF0.out.cell 3; have r4 := HF0.out.cell 4; have r5 := HF0.out.cell 5
          have s0 := HF0.out.frozen 0; have s1 := HF0.out.frozen 1; have s2 := HF0.out.frozen 2; have s3 := HF0.out.frozen 3; have s4 := HF0.out.frozen 4; have s5 := HF0.out.frozen 5
          simp only [List.getElem?_cons_zero, List.getElem?_cons_succ] at q0 q1 q2 q3 q4 q5
          simp only [docCells, eDoc, Doc.kind, Doc.text, Doc.brk, Doc.id, Doc.width, List.getElem?_cons_zero, List.getElem?_cons_succ] at r0 r1 r2 r3 r4 r5
          clear HF1'
          go_wp2_with fail
          refine bodyPost_ret (v := .tuple #[.agg #[.int .i64 d.kind, .string d.text, .slice A l.length c, .bool d.brk, .int .i64 d.id, .int .i64 d.width], .bool d.brk]) (by simp [results, Tryd.f45, go_sem, r0, r1, r2, r3, r4, r5]) rfl ⟨.slice A l.length c, by rw [HDV.out, HOUT.out, HSB.out, HSO.out], ?_, ?_⟩
          · have h0 := HB0.out
            refine KG.of thawX_stab (by omega) ?_ (fun b hb hb2 => set6_heap wr B0 b _ _ _ _ _ _ (by omega)) (HRW.out.kw HD.out)
            simp
          · exact set6_below HBX.out B0 _ _ _ _ _ _ (by have := HB0.out; omega)
      case inr.inr.inr.inl =>
        have HSB' : Hid (∀ b, sprBrk told d.kind b m0 = (b || (told && m0))) := Lib.hid (fun b => by rw [← HKK.out]; unfold sprBrk; rw [if_pos (by omega)])
        have HSO' : Hid (∀ b, sprOut told d.kind b m0 = (b || (told && m0))) := Lib.hid (fun b => by rw [← HKK.out]; unfold sprOut; simp [ek])
        obtain ⟨bb, hbb⟩ : ∃ bb, bb = d.brk := ⟨_, rfl⟩
        rw [← hbb] at gg3 b3
        have HBB := Lib.hid hbb
        clear ek hbb
        have hmc : bb = true ∨ (bb = false ∧ told = false) ∨ (bb = false ∧ told = true ∧ m0 = true) ∨ (bb = false ∧ told = true ∧ m0 = false) := by cases bb <;> cases told <;> cases m0 <;> simp
        rcases hmc with rfl | ⟨rfl, rfl⟩ | ⟨rfl, rfl, rfl⟩ | ⟨rfl, rfl, rfl⟩
        · have HSB : Hid (sprBrk told d.kind d.brk m0 = true) := Lib.hid (by rw [HSB'.out, ← HBB.out]; simp)
          have HSO : Hid (sprOut told d.kind d.brk m0 = true) := Lib.hid (by rw [HSO'.out, ← HBB.out]; simp)
          go_upto_region 23 with fail
          have HF1' := HK1.out.set 3 (.bool true)
          simp only [docCells, List.set_cons_succ, List.set_cons_zero] at HF1'
          have HF0 := Lib.hid (HK0.out.set_other (a := ⟨B0 + 1, 3, none⟩) (by simp) (.bool true))
          have HRW := Lib.hid (HROW.out.set thawX_stab (a := ⟨B0 + 1, 3, none⟩) (by simp) (.bool true))
          have HBX := Lib.hid (HBW.out.setCell (p := ⟨B0 + 1, 3, none⟩) (by have := HB0.out; simp; omega) (.bool true))
          clear gg3 b3 f3 gg0 gg2
          generalize wr.setCell ⟨B0 + 1, 3, none⟩ (.bool true) = WX at *
          have HF1 := Lib.hid (show Blk WX (B0 + 1) [.int .i64 d.kind, .string d.text, .slice A l.length c, .bool true, .int .i64 d.id, .int .i64 d.width] 24 from HF1')
          have q0 := HF1.out.cell 0; have q1 := HF1.out.cell 1; have q2 := HF1.out.cell 2; have q3 := HF1.out.cell 3; have q4 := HF1.out.cell 4; have q5 := HF1.out.cell 5
          have r0 := HF0.out.cell 0; have r1 := HF0.out.cell 1; have r2 := HF0.out.cell 2; have r3 := HF0.out.cell 3; have r4 := HF0.out.cell 4; have r5 := HF0.out.cell 5
          have s0 := HF0.out.frozen 0; have s1 := HF0.out.frozen 1; have s2 := HF0.out.frozen 2; have s3 := HF0.out.frozen 3; have s4 := HF0.out.frozen 4; have s5 := HF0.out.frozen 5
          simp only [List.getElem?_cons_zero, List.getElem?_cons_succ] at q0 q1 q2 q3 q4 q5
          simp only [docCells, eDoc, Doc.kind, Doc.text, Doc.brk, Doc.id, Doc.width, List.getElem?_cons_zero, List.getElem?_cons_succ] at r0 r1 r2 r3 r4 r5
          clear HF1'
          go_wp2_with fail
          refine bodyPost_ret (v := .tuple #[.agg #[.int .i64 d.kind, .string d.text, .slice A l.length c, .bool true, .int .i64 d.id, .int .i64 d.width], .bool true]) (by simp [results, Tryd.f45, go_sem, r0, r1, r2, r3, r4, r5]) rfl ⟨.slice A l.length c, by rw [HDV.out, HOUT.out, HSB.out, HSO.out], ?_, ?_⟩
          · have h0 := HB0.out
            refine KG.of thawX_stab (by omega) ?_ (fun b hb hb2 => set6_heap WX B0 b _ _ _ _ _ _ (by omega)) (HRW.out.kw HD.out)
            simp
          · exact set6_below HBX.out B0 _ _ _ _ _ _ (by have := HB0.out; omega)
        · have HSB : Hid (sprBrk false d.kind d.brk m0 = false) := Lib.hid (by rw [HSB'.out, ← HBB.out]; simp)
          have HSO : Hid (sprOut false d.kind d.brk m0 = false) := Lib.hid (by rw [HSO'.out, ← HBB.out]; simp)
          go_upto_region 23 with fail
          have HF1' := HK1.out.set 3 (.bool false)
          simp only [docCells, List.set_cons_succ, List.set_cons_zero] at HF1'
          have HF0 := Lib.hid (HK0.out.set_other (a := ⟨B0 + 1, 3, none⟩) (by simp) (.bool false))
          have HRW := Lib.hid (HROW.out.set thawX_stab (a := ⟨B0 + 1, 3, none⟩) (by simp) (.bool false))
          have HBX := Lib.hid (HBW.out.setCell (p := ⟨B0 + 1, 3, none⟩) (by have := HB0.out; simp; omega) (.bool false))
          clear gg3 b3 f3 gg0 gg2
          generalize wr.setCell ⟨B0 + 1, 3, none⟩ (.bool false) = WX at *
          have HF1 := Lib.hid (show Blk WX (B0 + 1) [.int .i64 d.kind, .string d.text, .slice A l.length c, .bool false, .int .i64 d.id, .int .i64 d.width] 24 from HF1')
          have q0 := HF1.out.cell 0; have q1 := HF1.out.cell 1; have q2 := HF1.out.cell 2; have q3 := HF1.out.cell 3; have q4 := HF1.out.cell 4; have q5 := HF1.out.cell 5
          have r0 := HF0.out.cell 0; have r1 := HF0.out.cell 1; have r2 := HF0.out.cell 2; have r3 := HF0.out.cell 3; have r4 := HF0.out.cell 4; have r5 := HF0.out.cell 5
          have s0 := HF0.out.frozen 0; have s1 := HF0.out.frozen 1; have s2 := HF0.out.frozen 2; have s3 := HF0.out.frozen 3; have s4 := HF0.out.frozen 4; have s5 := HF0.out.frozen 5
          simp only [List.getElem?_cons_zero, List.getElem?_cons_succ] at q0 q1 q2 q3 q4 q5
          simp only [docCells, eDoc, Doc.kind, Doc.text, Doc.brk, Doc.id, Doc.width, List.getElem?_cons_zero, List.getElem?_cons_succ] at r0 r1 r2 r3 r4 r5
          clear HF1'
          go_wp2_with fail
          refine bodyPost_ret (v := .tuple #[.agg #[.int .i64 d.kind, .string d.text, .slice A l.length c, .bool false, .int .i64 d.id, .int .i64 d.width], .bool false]) (by simp [results, Tryd.f45, go_sem, r0, r1, r2, r3, r4, r5]) rfl ⟨.slice A l.length c, by rw [HDV.out, HOUT.out, HSB.out, HSO.out], ?_, ?_⟩
          · have h0 := HB0.out
            refine KG.of thawX_stab (by omega) ?_ (fun b hb hb2 => set6_heap WX B0 b _ _ _ _ _ _ (by omega)) (HRW.out.kw HD.out)
            simp
          · exact set6_below HBX.out B0 _ _ _ _ _ _ (by have := HB0.out; omega)
        · have HSB : Hid (sprBrk true d.kind d.brk true = true) := Lib.hid (by rw [HSB'.out, ← HBB.out]; simp)
          have HSO : Hid (sprOut true d.kind d.brk true = true) := Lib.hid (by rw [HSO'.out, ← HBB.out]; simp)
          go_upto_region 23 with fail
          have HF1' := HK1.out.set 3 (.bool true)
          simp only [docCells, List.set_cons_succ, List.set_cons_zero] at HF1'
          have HF0 := Lib.hid (HK0.out.set_other (a := ⟨B0 + 1, 3, none⟩) (by simp) (.bool true))
          have HRW := Lib.hid (HROW.out.set thawX_stab (a := ⟨B0 + 1, 3, none⟩) (by simp) (.bool true))
          have HBX := Lib.hid (HBW.out.setCell (p := ⟨B0 + 1, 3, none⟩) (by have := HB0.out; simp; omega) (.bool true))
          clear gg3 b3 f3 gg0 gg2
          generalize wr.setCell ⟨B0 + 1, 3, none⟩ (.bool true) = WX at *
          have HF1 := Lib.hid (show Blk WX (B0 + 1) [.int .i64 d.kind, .string d.text, .slice A l.length c, .bool true, .int .i64 d.id, .int .i64 d.width] 24 from HF1')
          have q0 := HF1.out.cell 0; have q1 := HF1.out.cell 1; have q2 := HF1.out.cell 2; have q3 := HF1.out.cell 3; have q4 := HF1.out.cell 4; have q5 := HF1.out.cell 5
          have r0 := HF0.out.cell 0; have r1 := HF0.out.cell 1; have r2 := HF0.out.cell 2; have r3 := HF0.out.cell 3; have r4 := HF0.out.cell 4; have r5 := HF0.out.cell 5
          have s0 := HF0.out.frozen 0; have s1 := HF0.out.frozen 1; have s2 := HF0.out.frozen 2; have s3 := HF0.out.frozen 3; have s4 := HF0.out.frozen 4; have s5 := HF0.out.frozen 5
          simp only [List.getElem?_cons_zero, List.getElem?_cons_succ] at q0 q1 q2 q3 q4 q5
          simp only [docCells, eDoc, Doc.kind, Doc.text, Doc.brk, Doc.id, Doc.width, List.getElem?_cons_zero, List.getElem?_cons_succ] at r0 r1 r2 r3 r4 r5
          clear HF1'
          go_wp2_with fail
          refine bodyPost_ret (v := .tuple #[.agg #[.int .i64 d.kind, .string d.text, .slice A l.length c, .bool true, .int .i64 d.id, .int .i64 d.width], .bool true]) (by simp [results, Tryd.f45, go_sem, r0, r1, r2, r3, r4, r5]) rfl ⟨.slice A l.length c, by rw [HDV.out, HOUT.out, HSB.out, HSO.out], ?_, ?_⟩
          · have h0 := HB0.out
            refine KG.of thawX_stab (by omega) ?_ (fun b hb hb2 => set6_heap WX B0 b _ _ _ _ _ _ (by omega)) (HRW.out.kw HD.out)
            simp
          · exact set6_below HBX.out B0 _ _ _ _ _ _ (by have := HB0.out; omega)
        · have HSB : Hid (sprBrk true d.kind d.brk false = false) := Lib.hid (by rw [HSB'.out, ← HBB.out]; simp)
          have HSO : Hid (sprOut true d.kind d.brk false = false) := Lib.hid (by rw [HSO'.out, ← HBB.out]; simp)
          go_upto_region 23 with fail
          have HF1' := HK1.out.set 3 (.bool false)
          simp only [docCells, List.set_cons_succ, List.set_cons_zero] at HF1'
          have HF0 := Lib.hid (HK0.out.set_other (a := ⟨B0 + 1, 3, none⟩) (by simp) (.bool false))
          have HRW := Lib.hid (HROW.out.set thawX_stab (a := ⟨B0 + 1, 3, none⟩) (by simp) (.bool false))
          have HBX := Lib.hid (HBW.out.setCell (p := ⟨B0 + 1, 3, none⟩) (by have := HB0.out; simp; omega) (.bool false))
          clear gg3 b3 f3 gg0 gg2
          generalize wr.setCell ⟨B0 + 1, 3, none⟩ (.bool false) = WX at *
          have HF1 := Lib.hid (show Blk WX (B0 + 1) [.int .i64 d.kind, .string d.text, .slice A l.length c, .bool false, .int .i64 d.id, .int .i64 d.width] 24 from HF1')
          have q0 := HF1.out.cell 0; have q1 := HF1.out.cell 1; have q2 := HF1.out.cell 2; have q3 := HF1.out.cell 3; have q4 := HF1.out.cell 4; have q5 := HF1.out.cell 5
          have r0 := HF0.out.cell 0; have r1 := HF0.out.cell 1; have r2 := HF0.out.cell 2; have r3 := HF0.out.cell 3; have r4 := HF0.out.cell 4; have r5 := HF0.out.cell 5
          have s0 := HF0.out.frozen 0; have s1 := HF0.out.frozen 1; have s2 := HF0.out.frozen 2; have s3 := HF0.out.frozen 3; have s4 := HF0.out.frozen 4; have s5 := HF0.out.frozen 5
          simp only [List.getElem?_cons_zero, List.getElem?_cons_succ] at q0 q1 q2 q3 q4 q5
          simp only [docCells, eDoc, Doc.kind, Doc.text, Doc.brk, Doc.id, Doc.width, List.getElem?_cons_zero, List.getElem?_cons_succ] at r0 r1 r2 r3 r4 r5
          clear HF1'
          go_wp2_with fail
          refine bodyPost_ret (v := .tuple #[.agg #[.int .i64 d.kind, .string d.text, .slice A l.length c, .bool false, .int .i64 d.id, .int .i64 d.width], .bool false]) (by simp [results, Tryd.f45, go_sem, r0, r1, r2, r3, r4, r5]) rfl ⟨.slice A l.length c, by rw [HDV.out, HOUT.out, HSB.out, HSO.out], ?_, ?_⟩
          · have h0 := HB0.out
            refine KG.of thawX_stab (by omega) ?_ (fun b hb hb2 => set6_heap WX B0 b _ _ _ _ _ _ (by omega)) (HRW.out.kw HD.out)
            simp
          · exact set6_below HBX.out B0 _ _ _ _ _ _ (by have := HB0.out; omega)
    have hjm : (j : Int) < (len : Int) := by omega
    have hj2 : j < d.kids.length := by rw [← HLEN.out]; exact hlt
    obtain ⟨gk, offk, rfl, _, hgk, kv2, h6, hk2⟩ := HKID.out j hj2
    have h6' := h6.of (hbw.block _ hgk)
    have hkw : KV wr 0 wr.heap.size (d.kids[j]'hj2) kv2 := (hk2.below hbw (Nat.le_refl _)).wide (Nat.le_refl _) hbw.size
    have HC := Lib.hid ((HMEM.out j hj2).1 gk (offk + j * 6) kv2 wr h6' (by have h9 := hbw.size; have h8 := HB0.out; omega) hkw (HMEM.out j hj2).2)
    have hbwz := hbw.size
    have gg2 := (hbw.cell (p := ⟨g, off + 2, none⟩) hg).trans g2
    have gg0 := (hbw.cell (p := ⟨g, off, none⟩) hg).trans g0
    have hx := List.getElem?_eq_getElem hj2
    generalize d.kids[j]'hj2 = K at *
    have HX := Lib.hid hx
    obtain ⟨K', hK'⟩ : ∃ K', K' = K.sprD told := ⟨_, rfl⟩
    obtain ⟨mk, hmk⟩ : ∃ mk, mk = K.must told := ⟨_, rfl⟩
    rw [← hK', ← hmk] at HC
    have HKK := Lib.hid (And.intro hK' hmk)
    obtain ⟨m0, hm0⟩ : ∃ m0, m0 = mustL d.kind ((d.kids.take j).map (Doc.must told)) := ⟨_, rfl⟩
    rw [← hm0]
    have HM0 := Lib.hid hm0
    clear h6 h6' hk2 hkw hl hll hb0 hb1 hrow hbw hx hK' hmk hm0
    go_wp2_with fail
    refine HC.out.mono ?_
    rintro e w2 ⟨kv', rfl, hkw2, hb2⟩
    obtain ⟨a', c', rfl⟩ := (KG.kv hkw2).slice
    obtain ⟨n', hn'⟩ : ∃ n', n' = K'.kids.length := ⟨_, rfl⟩
    rw [← hn'] at hkw2
    rw [← hn']
    have HKW2 := Lib.hid hkw2
    have HB2 := Lib.hid hb2
    have hz2 := hb2.size
    have hvne : ∀ x, (Value.slice A l.length c).ownBlock = some x → B0 + 2 ≤ x := fun x hx => (HROW.out.own.lt x hx).1
    have HVNE := Lib.hid hvne
    have hk1a := fun o => ((HK1.out.below hb2).alloc o).cell 2
    simp only [docCells, List.getElem?_cons_zero, List.getElem?_cons_succ] at hk1a
    obtain ⟨i0, z0, hT1, hi0, hz0, hz1, hzb, hz4, hz5⟩ := docE
    have HE := Lib.hid (And.intro hi0 (And.intro hz0 (And.intro hz1 (And.intro hzb hz4))))
    have gg2b := fun o1 => ((Below.refl w2.heap.size w2).alloc (Nat.le_refl _) o1)
    clear hi0 hz0 hz1 hzb hz4 hT1 hkw2 hb2 hvne gg2b hn'
    unfold docV
    go_upto_region 9 with (at_builtin; refine wpList_append_lies _ rfl (.tmp 35) (.tmp 37) 22 rfl (B0 + 2) 24 i0 z0 6 72 Tryd.underlying22 HE.out.1 HE.out.2.1 HE.out.2.2.1 HE.out.2.2.2.1 HE.out.2.2.2.2 (by omega) (.slice A l.length c) l.length (docsCells l) rfl (((own_below HROW.out.own HB2.out).alloc _).alloc _) ⟨w2.heap.size + 1, 0, none⟩ 1 1 (docCells K' (.slice a' n' c')) rfl rfl (World.news_of_block (cs := (docCells K' (.slice a' n' c')).toArray) (t := 24) (fr := (0, 0)) (Blk.new' (docCells K' (.slice a' n' c')) 24 (by simp))) (by simp [Value.oneCell', docCells]) (by omega) (by unfold maxLen; omega) (by omega) (by simp; omega) (w2.heap.size + 2) (by simp) ?_; intro gg cap' w3 hown hgrow hat hgg; have hB4 := (((HK1.out.below HB2.out).alloc _).alloc _).grown hgrow (fun e => by have := HVNE.out _ e.symm; omega); have c3 := hB4.cell 2; have f3 := hB4.frozen 2; simp only [docCells, List.getElem?_cons_zero, List.getElem?_cons_succ] at c3; have HB4 := Lib.hid hB4; have HO3 := Lib.hid hown; have HG3 := Lib.hid hgrow; have HAT := Lib.hid hat; clear hown hgrow hat hB4)
    have hvnb : ∀ b, b < B0 + 2 → some b ≠ (Value.slice A l.length c).ownBlock := fun b hb e => by have := HVNE.out b e.symm; omega
    have hK0 := ((((HK0.out.below HB2.out).alloc (.cells (docCells K' (.slice a' n' c')).toArray 24)).alloc (.cells (docCells K' (.slice a' n' c')).toArray 24)).grown HG3.out (hvnb _ (by omega))).set_other (a := ⟨B0 + 1, 2, none⟩) (by simp) (.slice (some ⟨gg, 0, none⟩) (l.length + 1) cap')
    have hK1 := HB4.out.set 2 (.slice (some ⟨gg, 0, none⟩) (l.length + 1) cap')
    have hW1 : Below wr.heap.size wr (w2.alloc (.cells (docCells K' (.slice a' n' c')).toArray 24)) := HB2.out.alloc hz2 _
    have hrow2 := (HROW.out.push thawX_stab hW1 (by omega) (Nat.le_refl _) (hi := w2.heap.size) (by simp) (KG.of thawX_stab (Nat.le_refl _) (Nat.le_refl _) (fun b _ hb => Below.heap_alloc w2 _ b hb) HKW2.out) _ HO3.out HG3.out (gg := gg) rfl (by simpa using HAT.out)).set thawX_stab (a := ⟨B0 + 1, 2, none⟩) (by simp) (.slice (some ⟨gg, 0, none⟩) (l.length + 1) cap')
    have hBB : Below w.heap.size w (w3.setCell ⟨B0 + 1, 2, none⟩ (.slice (some ⟨gg, 0, none⟩) (l.length + 1) cap')) := by
      have hs := HBW.out.size
      have h0 := HB0.out
      refine Below.setCell (p := ⟨B0 + 1, 2, none⟩) ((((HBW.out.call HB2.out).alloc (by omega) (.cells (docCells K' (.slice a' n' c')).toArray 24)).alloc (by simp; omega) (.cells (docCells K' (.slice a' n' c')).toArray 24)).grown HG3.out (by simp; omega) (fun x hx => by have := HVNE.out x hx; omega)) (by simp; omega) _
    simp only [docCells, List.set_cons_succ, List.set_cons_zero] at hK1
    have HK02 := Lib.hid hK0
    have HK12 := Lib.hid (show Blk _ (B0 + 1) (docCells d (.slice (some ⟨gg, 0, none⟩) (l.length + 1) cap')) 24 from hK1)
    have HROW2 := Lib.hid hrow2
    have HBB := Lib.hid hBB
    have hs5 : ((w3.setCell ⟨B0 + 1, 2, none⟩ (.slice (some ⟨gg, 0, none⟩) (l.length + 1) cap')).cell? ⟨g, off, none⟩) = some (.int .i64 d.kind) := (hBB.cell (p := ⟨g, off, none⟩) hg).trans g0
    clear hvnb hK0 hK1 hW1 hrow2 hBB HG3 HO3 HAT HB4 HROW HK0 HK1 HKW2 HB2 hk1a c3 f3 gg0 gg2
    generalize w3.setCell ⟨B0 + 1, 2, none⟩ (.slice (some ⟨gg, 0, none⟩) (l.length + 1) cap') = W5 at *
    have hnext : ∃ (j' : Nat) (l' : List (Doc × Value)) (A' : Option Addr) (c' : Nat), j' ≤ len ∧ Value.int .i64 ((j : Int) + 1) = .int .i64 (j' : Int) ∧ Value.bool (m0 || (mk && (decide (d.kind ≠ 8) || decide (j = 0)))) = .bool (mustL d.kind ((d.kids.take j').map (Doc.must told))) ∧ l'.map Prod.fst = (d.kids.take j').map (Doc.sprD told) ∧
        Blk W5 B0 (docCells (eDoc 0 []) (.slice none 0 0)) 24 ∧ Blk W5 (B0 + 1) (docCells d (.slice A' l'.length c')) 24 ∧ RowD false thawX W5 (B0 + 2) l' (.slice A' l'.length c') ∧ Below w.heap.size w W5 := by
      refine ⟨j + 1, l ++ [(K', .slice a' n' c')], some ⟨gg, 0, none⟩, cap', by omega, by go_num, ?_, ?_, HK02.out, by rw [List.length_append]; exact HK12.out, by rw [List.length_append]; exact HROW2.out, HBB.out⟩
      · rw [List.take_add_one, HX.out, List.map_append]
        show _ = Value.bool (mustL d.kind ((d.kids.take j).map (Doc.must told) ++ [K.must told]))
        rw [mustL_snoc, ← HM0.out, ← HKK.out.2, List.length_map, List.length_take]
        have hmin : min j d.kids.length = j := by have := HLEN.out; omega
        rw [hmin]
      · rw [List.map_append, List.take_add_one, HX.out, List.map_append, HL.out]
        show _ = (d.kids.take j).map (Doc.sprD told) ++ [K.sprD told]
        rw [← HKK.out.1]
        rfl
    have HNX := Lib.hid hnext
    clear hnext HK02 HK12 HROW2 HBB HX HKK HM0 HLL HL
    have hcs : (m0 = true) ∨ (m0 = false ∧ mk = false) ∨ (m0 = false ∧ mk = true ∧ (d.kind == 8) = false ∧ decide (d.kind ≠ 8) = true) ∨ (m0 = false ∧ mk = true ∧ (d.kind == 8) = true ∧ decide (d.kind ≠ 8) = false) := by
      cases m0 <;> cases mk <;> by_cases h8 : d.kind = 8 <;> simp [h8]
    rcases hcs with rfl | ⟨rfl, rfl⟩ | ⟨rfl, rfl, h8, h8'⟩ | ⟨rfl, rfl, h8, h8'⟩
    case inr.inr.inr =>
      by_cases hj0 : j = 0
      · have hj1 : ((j : Int) == 0) = true := by subst hj0; rfl
        have hj2' : decide (j = 0) = true := by simpa using hj0
        rw [h8', hj2'] at HNX
        have h8n : (d.kind != 8) = false := by simp [bne, h8]
        clear hj0 hj2' h8'
        go_wp2_with fail
        go_roundw
        case rel => exact HNX.out
        case measure => simp [intOf]; omega
      · have hj1 : ((j : Int) == 0) = false := by rw [beq_eq_false_iff_ne]; omega
        have hj2' : decide (j = 0) = false := by simpa using hj0
        rw [h8', hj2'] at HNX
        have h8n : (d.kind != 8) = false := by simp [bne, h8]
        clear hj0 hj2' h8'
        go_wp2_with fail
        go_roundw
        case rel => exact HNX.out
        case measure => simp [intOf]; omega
    case inr.inr.inl =>
      rw [h8'] at HNX
      have h8n : (d.kind != 8) = true := by simp [bne, h8]
      clear h8'
      go_wp2_with fail
      go_roundw
      case rel => exact HNX.out
      case measure => simp [intOf]; omega
    all_goals
      go_wp2_with fail
      go_roundw
      case rel => exact HNX.out
      case measure => simp [intOf]; omega
end

section
open Go.RowKit
set_option linter.unusedVariables false

def softD : Doc := eDoc 4 []
def stepD (r : Nat) (d : Doc) : Doc :=
  if r = 0 then eDoc 2 [softD, d] else if r = 1 then eDoc 11 [d] else if r = 2 then eDoc 7 [d] else if r = 3 then eDoc 14 [d] else if r = 4 then eDoc 8 [d, softD] else if r = 5 then eDoc 8 [softD, d] else if r = 6 then eDoc 9 [d] else eDoc 10 [softD, d]
def stepUp (r : Nat) (up : Bool) : Bool := if r = 3 ∨ r = 5 then false else up
theorem soft_facts : softD.shape = true ∧ softD.depth = 1 ∧ softD.bulk = 1 ∧ softD.must true = false := ⟨by kernel_rfl, by kernel_rfl, by kernel_rfl, by kernel_rfl⟩
structure WaysOk (n : Nat) (d : Doc) (up : Bool) : Prop where
  shape : d.shape = true
  depth : d.depth ≤ n + 1
  bulk : d.bulk ≤ 2 * n + 1
  must : d.must true = up
theorem eDoc_shape (k : Int) (ks : List Doc) : (eDoc k ks).shape = (formedF k ⟨#[]⟩ ks.length false 0 0 && shapeL ks) := by rw [Doc.shape_eq]; rfl
theorem eDoc_depth (k : Int) (ks : List Doc) : (eDoc k ks).depth = depthL ks + 1 := by rw [Doc.depth_eq]; rfl
theorem eDoc_bulk (k : Int) (ks : List Doc) : (eDoc k ks).bulk = bulkL ks + 1 := by rw [Doc.bulk_eq]; rfl
theorem eDoc_must (k : Int) (ks : List Doc) : (eDoc k ks).must true = sprOut true k false (mustL k (ks.map (Doc.must true))) := by rw [Doc.must_eq]; rfl
theorem formed_facts : formedF 2 ⟨#[]⟩ 2 false 0 0 = true ∧ formedF 11 ⟨#[]⟩ 1 false 0 0 = true ∧ formedF 7 ⟨#[]⟩ 1 false 0 0 = true ∧ formedF 14 ⟨#[]⟩ 1 false 0 0 = true ∧ formedF 8 ⟨#[]⟩ 2 false 0 0 = true ∧ formedF 9 ⟨#[]⟩ 1 false 0 0 = true ∧ formedF 10 ⟨#[]⟩ 2 false 0 0 = true :=
  ⟨by kernel_rfl, by kernel_rfl, by kernel_rfl, by kernel_rfl, by kernel_rfl, by kernel_rfl, by kernel_rfl⟩
theorem ways_step {n : Nat} {d : Doc} {up : Bool} (h : WaysOk n d up) (r : Nat) (hr : r < 8) : WaysOk (n + 1) (stepD r d) (stepUp r up) := by
  obtain ⟨f1, f2, f3, f4, f5, f6, f7⟩ := formed_facts
  obtain ⟨s1, s2, s3, s4⟩ := soft_facts
  obtain ⟨h1, h2, h3, h4⟩ := h
  have hc : r = 0 ∨ r = 1 ∨ r = 2 ∨ r = 3 ∨ r = 4 ∨ r = 5 ∨ r = 6 ∨ r = 7 := by omega
  rcases hc with rfl | rfl | rfl | rfl | rfl | rfl | rfl | rfl
  all_goals
    simp only [stepD, stepUp]
    refine ⟨?_, ?_, ?_, ?_⟩
    · simp [eDoc_shape, shapeL, *]
    · simp [eDoc_depth, depthL, *]; try omega
    · simp [eDoc_bulk, bulkL, *]; try omega
    · simp [eDoc_must, mustL, sprOut, *]
theorem ways_code {n : Nat} {d : Doc} {up : Bool} (h : WaysOk n d up) (hn : n ≤ 1000) : (eDoc 7 [d]).code = 0 ∧ ((eDoc 7 [d]).sprD true).brk = up ∧ (eDoc 7 [d]).bulk ≤ 4194304 := by
  obtain ⟨f1, f2, f3, f4, f5, f6, f7⟩ := formed_facts
  obtain ⟨h1, h2, h3, h4⟩ := h
  refine ⟨?_, ?_, ?_⟩
  · unfold Doc.code
    rw [if_neg (by rw [eDoc_depth]; simp [depthL]; omega), if_pos (by simp [eDoc_shape, shapeL, *])]
  · rw [Doc.sprD_eq]
    show sprBrk true 7 false (mustL 7 [d.must true]) = up
    simp [sprBrk, mustL, h4]
  · rw [eDoc_bulk]; simp [bulkL]; omega
theorem ways_new (k : Int) (hk : k = 5 ∨ k = 6 ∨ k = 16 ∨ k = 3) : WaysOk 0 (eDoc k []) (decide (k ≠ 3)) := by
  rcases hk with rfl | rfl | rfl | rfl
  all_goals exact ⟨by kernel_rfl, by decide +kernel, by decide +kernel, by kernel_rfl⟩
end

section
open Go.RowKit
set_option maxRecDepth 100000
set_option linter.unusedVariables false
set_option linter.unusedSimpArgs false

set_option maxHeartbeats 2000000 in
/-- Spread. -/
theorem spread_any (d : Doc) (kv : Value) (w : World) (hk : KV w 0 w.heap.size d kv) (hb : d.bulk ≤ 4194304) (hT : Tabs w) :
    Calls Tryd.prog 33 #[docV d kv] w fun e w' => ∃ kv', e = .returned (docV (d.sprD (decide (d.code = 0))) kv') ∧ KW w' w.heap.size w'.heap.size (d.sprD (decide (d.code = 0))) kv' ∧ Below w.heap.size w w' := by
  obtain ⟨a, cap, rfl⟩ := hk.slice
  obtain ⟨B0, hB0⟩ : ∃ B0, B0 = w.heap.size := ⟨_, rfl⟩
  obtain ⟨W0, hW0⟩ : ∃ W0, W0 = (w.alloc (.cells (docCells d (.slice a d.kids.length cap)).toArray 24)).alloc (.cells (docCells (eDoc 0 []) (.slice none 0 0)).toArray 24) := ⟨_, rfl⟩
  have hst : Blk W0 B0 (docCells d (.slice a d.kids.length cap)) 24 ∧ Blk W0 (B0 + 1) (docCells (eDoc 0 []) (.slice none 0 0)) 24 ∧ Below w.heap.size w W0 := by
    rw [hW0]
    exact ⟨(Blk.new' _ _ hB0).alloc _, Blk.new' _ _ (by simp [hB0]), ((Below.refl _ w).alloc (Nat.le_refl _) _).alloc (by simp) _⟩
  have hk0 : KV W0 0 W0.heap.size d (.slice a d.kids.length cap) := (hk.below hst.2.2 (Nat.le_refl _)).wide (Nat.le_refl _) hst.2.2.size
  have HCH := Lib.hid (check_any d (.slice a d.kids.length cap) W0 hk0 hb (hT.below hst.2.2))
  have HST := Lib.hid hst
  have HK0 := Lib.hid hk0
  have HW0 := Lib.hid hW0
  have HB0 := Lib.hid hB0
  have hdec : (d.code == 0) = decide (d.code = 0) := rfl
  have HDEC := Lib.hid hdec
  clear hst hk0 hk hT hW0 hdec
  obtain ⟨len, hlen⟩ : ∃ len, len = d.kids.length := ⟨_, rfl⟩
  rw [← hlen] at HCH HST HK0 HW0 ⊢
  clear hlen
  unfold docV at HCH
  unfold docV
  go_enter Tryd.func33, Tryd.ntmps33
  go_wp2_with fail
  refine (Calls.at_world (by rw [HW0.out]; rfl) HCH.out).mono ?_
  rintro e w1 ⟨rfl, hb1⟩
  have hb1' : Below W0.heap.size W0 w1 := hb1
  have HB1 := Lib.hid (HST.out.2.2.call hb1')
  have HX1 := Lib.hid (HST.out.1.below hb1')
  have HY1 := Lib.hid (HST.out.2.1.below hb1')
  have HK1 := Lib.hid ((HK0.out.below hb1' (Nat.le_refl _)).wide (Nat.le_refl _) hb1'.size)
  clear hb1 hb1' HCH
  go_wp2_with fail
  obtain ⟨told, htold⟩ : ∃ told, told = decide (d.code = 0) := ⟨_, rfl⟩
  rw [HDEC.out, ← htold]
  have HTO := Lib.hid htold
  clear htold
  have h6 : Six w1 w.heap.size 0 d (.slice a len cap) := by
    rw [← HB0.out]
    have h := HX1.out
    exact ⟨h.cell 0, h.cell 1, h.cell 2, h.cell 3, h.cell 4, h.cell 5⟩
  refine (copied_any told d w.heap.size 0 (.slice a len cap) w1 h6 (by have := HX1.out.lt; have := HB0.out; omega) HK1.out hb).mono ?_
  rintro e w2 ⟨kv', rfl, hkw2, hb2⟩
  obtain ⟨a', c', rfl⟩ := (KG.kv hkw2).slice
  obtain ⟨D', hD'⟩ : ∃ D', D' = d.sprD told := ⟨_, rfl⟩
  rw [← hD'] at hkw2 ⊢
  obtain ⟨n', hn'⟩ : ∃ n', n' = D'.kids.length := ⟨_, rfl⟩
  rw [← hn'] at hkw2 ⊢
  have HKW2 := Lib.hid hkw2
  have HY2 := Lib.hid (HY1.out.below hb2)
  have HB2 := Lib.hid (HB1.out.call hb2)
  have HZ2 := Lib.hid hb2.size
  have HZ1 := Lib.hid HB1.out.size
  have hlt : B0 + 1 < w2.heap.size := HY2.out.lt
  rw [HB0.out] at HY2 hlt
  have y0 := fun o => (HY2.out.alloc o).cell 0; have y1 := fun o => (HY2.out.alloc o).cell 1; have y2 := fun o => (HY2.out.alloc o).cell 2; have y3 := fun o => (HY2.out.alloc o).cell 3; have y4 := fun o => (HY2.out.alloc o).cell 4; have y5 := fun o => (HY2.out.alloc o).cell 5
  have s0 := fun o => (HY2.out.alloc o).frozen 0; have s1 := fun o => (HY2.out.alloc o).frozen 1; have s2 := fun o => (HY2.out.alloc o).frozen 2; have s3 := fun o => (HY2.out.alloc o).frozen 3; have s4 := fun o => (HY2.out.alloc o).frozen 4; have s5 := fun o => (HY2.out.alloc o).frozen 5
  simp only [docCells, eDoc, Doc.kind, Doc.text, Doc.brk, Doc.id, Doc.width, List.getElem?_cons_zero, List.getElem?_cons_succ] at y0 y1 y2 y3 y4 y5
  have z0 := HY2.out.cell 0; have z1 := HY2.out.cell 1; have z2 := HY2.out.cell 2; have z3 := HY2.out.cell 3; have z4 := HY2.out.cell 4; have z5 := HY2.out.cell 5
  have t0 := HY2.out.frozen 0; have t1 := HY2.out.frozen 1; have t2 := HY2.out.frozen 2; have t3 := HY2.out.frozen 3; have t4 := HY2.out.frozen 4; have t5 := HY2.out.frozen 5
  simp only [docCells, eDoc, Doc.kind, Doc.text, Doc.brk, Doc.id, Doc.width, List.getElem?_cons_zero, List.getElem?_cons_succ] at z0 z1 z2 z3 z4 z5
  have HDD := Lib.hid hD'
  clear hkw2 hb2 h6 hD' hn'
  unfold docV
  go_wp2_with fail
  have hfin := set6_blk HY2.out rfl D' (.slice a' n' c')
  have e0 := fun o => (hfin.alloc o).cell 0; have e1 := fun o => (hfin.alloc o).cell 1; have e2 := fun o => (hfin.alloc o).cell 2; have e3 := fun o => (hfin.alloc o).cell 3; have e4 := fun o => (hfin.alloc o).cell 4; have e5 := fun o => (hfin.alloc o).cell 5
  simp only [docCells, List.getElem?_cons_zero, List.getElem?_cons_succ] at e0 e1 e2 e3 e4 e5
  clear y0 y1 y2 y3 y4 y5 s0 s1 s2 s3 s4 s5 z0 z1 z2 z3 z4 z5 t0 t1 t2 t3 t4 t5
  refine bodyPost_ret (v := docV D' (.slice a' n' c')) (by simp only [results, Tryd.f33]; simp [go_sem, docV, e0, e1, e2, e3, e4, e5]) rfl (show ∃ kv', _ ∧ _ ∧ _ from ⟨.slice a' n' c', by rw [← HTO.out, ← HDD.out]; rfl, ?_, ?_⟩)
  · rw [← HTO.out, ← HDD.out]
    have hz1 := HZ1.out
    have hz2 := HZ2.out
    refine KG.of thawX_stab hz1 ?_ (fun b hb hb2 => (Below.heap_alloc _ _ b (by simpa using hb2)).trans (set6_heap w2 (w.heap.size + 1) b _ _ _ _ _ _ (by have := HY1.out.lt; have := HB0.out; omega))) HKW2.out
    simp
  · exact (set6_below HB2.out (w.heap.size + 1) _ _ _ _ _ _ (by omega)).alloc (by simp; omega) _

/-! ### awake -/
def hardD : Doc := eDoc 5 []
theorem aw16_facts : (eDoc 7 [eDoc 7 [hardD]]).code = 0 ∧ (eDoc 7 [eDoc 3 []]).code = 0 ∧ ((eDoc 7 [eDoc 7 [hardD]]).sprD true) = .mk 7 ⟨#[]⟩ [.mk 7 ⟨#[]⟩ [hardD] true 0 0] true 0 0 ∧ ((eDoc 7 [eDoc 3 []]).sprD true) = eDoc 7 [eDoc 3 []] := ⟨by kernel_rfl, by kernel_rfl, by kernel_rfl, by kernel_rfl⟩
end
end Go.Proofs.YthljgiimdcbfpaaDoor
