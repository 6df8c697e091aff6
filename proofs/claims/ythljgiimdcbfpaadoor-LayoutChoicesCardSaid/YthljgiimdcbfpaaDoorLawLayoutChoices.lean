/- The law LayoutChoices (platenlaw17) holds of the program. Conditions: the library's tables unicode/utf8.first and acceptRanges read as their initialisers lay them. -/
import Derived.Test.YthljgiimdcbfpaaDoorMLaw
import Derived.Test.YthljgiimdcbfpaaDoorLPSteps
import Derived.Test.YthljgiimdcbfpaaDoorLPFacts
import Derived.Test.YthljgiimdcbfpaaDoorLPChs
namespace Go.Proofs.YthljgiimdcbfpaaDoor
open Go.RowKit Go.WideShapes Go.ChangeShapes Go.ChangeAt
set_option maxRecDepth 100000
set_option linter.unusedVariables false
set_option linter.unusedSimpArgs false

/-- A block whose first document is of a kind. -/
def Solid (W : World) (b : Nat) : Prop := ∃ (k : Int) (cs : List Value), k ≠ 0 ∧ Blk W b (.int .i64 k :: cs) 24
theorem Solid.next {W W' : World} {b : Nat} (h : Solid W b) (hb : Below W.heap.size W W') : Solid W' b := by
  obtain ⟨k, cs, h1, h2⟩ := h
  exact ⟨k, cs, h1, h2.below hb⟩
theorem InF.mono {F F' : Nat → Prop} (hF : ∀ b, F b → F' b) {W : World} {d : Doc} : ∀ {kv : Value}, InF F W d kv → InF F' W d kv := by
  refine Doc.ind (P := fun d => ∀ {kv}, InF F W d kv → InF F' W d kv) (fun d ih => ?_) d
  intro kv h
  unfold InF at h ⊢
  rw [KG_iff] at h ⊢
  obtain ⟨a, cap, rfl, hcap, h⟩ := h
  refine ⟨a, cap, rfl, hcap, fun h0 => ?_⟩
  obtain ⟨g, off, rfl, h1, h2, hx, h3⟩ := h h0
  refine ⟨g, off, rfl, h1, h2, hF g hx, ?_⟩
  rw [EG_iff] at h3 ⊢
  intro j hj
  obtain ⟨kv, h4, h5⟩ := h3 j hj
  exact ⟨kv, h4, ih _ (List.getElem_mem hj) h5⟩
/-- A document whose lists lie in such blocks. -/
def InS (W : World) (d : Doc) (kv : Value) : Prop := InF (Solid W) W d kv
theorem InS.next {W W' : World} {d : Doc} {kv : Value} (h : InS W d kv) (hb : Below W.heap.size W W') : InS W' d kv := InF.next hb (InF.mono (fun _ hs => hs.next hb) h)
theorem InS.nil {W : World} {d : Doc} (h : d.kids = []) : InS W d (.slice none 0 0) := InF.nil h
theorem InS.made {W : World} {g cap : Nat} {D : Doc} (d0 : Doc) (v0 : Value) (l : List (Doc × Value)) (hb : Blk W g (docsCells ((d0, v0) :: l)) 24) (h0 : d0.kind ≠ 0) (hk : ∀ p ∈ (d0, v0) :: l, InS W p.1 p.2) (hD : D.kids = ((d0, v0) :: l).map Prod.fst) (hc : ((d0, v0) :: l).length ≤ cap) :
    InS W D (.slice (some ⟨g, 0, none⟩) ((d0, v0) :: l).length cap) := InF.made _ hb ⟨d0.kind, _, h0, hb⟩ hk hD hc
theorem InS.slice {W : World} {d : Doc} {kv : Value} (h : InS W d kv) : ∃ A c, kv = .slice A d.kids.length c := InF.slice h
/-- The cells of a new document. -/
def zeroDoc : List Value := [.int .i64 0, .string ⟨#[]⟩, .slice none 0 0, .bool false, .int .i64 0, .int .i64 0]
abbrev nV : Value := .slice none 0 0
abbrev hardD : Doc := .mk 5 ⟨#[]⟩ [] false 0 0
/-- What each operation of the sixth region says. -/
def FC (k B : Nat) (vg : Value) : Nat → Value → World → Prop
  | 0, v, _ => v = docV (chG k) vg
  | 1, v, _ => v = docV hardD nV
  | 2, v, _ => v = docV (tD [98]) nV
  | 3, v, _ => v = docV (tD [102]) nV
  | 4, v, W => ∃ g, v = .slice (some ⟨g, 0, none⟩) 2 2 ∧ Blk W g (docsCells [(tD [98], nV), (tD [102], nV)]) 24
  | 5, v, W => ∃ g, v = docV (ifD 1 (tD [98]) (tD [102])) (.slice (some ⟨g, 0, none⟩) 2 2) ∧ InS W (ifD 1 (tD [98]) (tD [102])) (.slice (some ⟨g, 0, none⟩) 2 2)
  | 6, v, _ => v = docV hardD nV
  | 7, v, _ => v = docV (tD [105]) nV
  | 8, v, W => ∃ g, v = .slice (some ⟨g, 0, none⟩) 2 2 ∧ Blk W g (docsCells [(hardD, nV), (tD [105], nV)]) 24
  | 9, v, W => ∃ g, v = docV chI (.slice (some ⟨g, 0, none⟩) 2 2) ∧ InS W chI (.slice (some ⟨g, 0, none⟩) 2 2)
  | 10, v, W => ∃ g, v = .slice (some ⟨g, 0, none⟩) 1 1 ∧ InS W chN (.slice (some ⟨g, 0, none⟩) 1 1)
  | 11, v, W => ∃ g, v = docV chN (.slice (some ⟨g, 0, none⟩) 1 1) ∧ InS W chN (.slice (some ⟨g, 0, none⟩) 1 1)
  | 12, v, W => ∃ g, v = .slice (some ⟨g, 0, none⟩) 4 4 ∧ InS W (chD k) (.slice (some ⟨g, 0, none⟩) 4 4)
  | 13, v, W => ∃ g, v = docV (chD k) (.slice (some ⟨g, 0, none⟩) 4 4) ∧ InS W (chD k) (.slice (some ⟨g, 0, none⟩) 4 4)
  | 14, v, W => ∃ g, v = .pointer (some ⟨g, 0, none⟩) ∧ B ≤ g ∧ Blk W g zeroDoc 24
  | _, _, _ => True
theorem FC.next (k B : Nat) (vg : Value) : ∀ (i : Nat) (v : Value) (W W' : World), FC k B vg i v W → Below W.heap.size W W' → FC k B vg i v W'
  | 0, _, _, _, h, _ => h
  | 1, _, _, _, h, _ => h
  | 2, _, _, _, h, _ => h
  | 3, _, _, _, h, _ => h
  | 4, _, _, _, ⟨g, e, h⟩, hb => ⟨g, e, h.below hb⟩
  | 5, _, _, _, ⟨g, e, h⟩, hb => ⟨g, e, h.next hb⟩
  | 6, _, _, _, h, _ => h
  | 7, _, _, _, h, _ => h
  | 8, _, _, _, ⟨g, e, h⟩, hb => ⟨g, e, h.below hb⟩
  | 9, _, _, _, ⟨g, e, h⟩, hb => ⟨g, e, h.next hb⟩
  | 10, _, _, _, ⟨g, e, h⟩, hb => ⟨g, e, h.next hb⟩
  | 11, _, _, _, ⟨g, e, h⟩, hb => ⟨g, e, h.next hb⟩
  | 12, _, _, _, ⟨g, e, h⟩, hb => ⟨g, e, h.next hb⟩
  | 13, _, _, _, ⟨g, e, h⟩, hb => ⟨g, e, h.next hb⟩
  | 14, _, _, _, ⟨g, e, h0, h⟩, hb => ⟨g, e, h0, h.below hb⟩
  | _ + 15, _, _, _, _, _ => trivial
def chOv (w : Nat) : OptV := ⟨⟨w, 3, false, false⟩, false, false, false, false, false⟩
theorem ch_laid (w k : Nat) (hw : 1 ≤ w ∧ w ≤ 30) (hk : 1 ≤ k ∧ k ≤ 30) (kv : Value) (S : ByteArray) (hS : S = strOf (chWant w k)) (W : World) (hi : InW W (chD k) kv) (hT : Tabs W) :
    Calls Tryd.prog 25 #[docV (chD k) kv, .agg (chOv w).cells.toArray, .string S] W fun e w' => e = .returned (.bool true) ∧ Below W.heap.size W w' := by
  have h2 := laid_any (chD k) kv (chOv w) (chWant w k) W hi (by have := ch_bulk (k := k) hk.2; omega) hT
  rw [show laidB (chD k) (chOv w).o (chWant w k) = true from ch_is hw hk, ← hS] at h2
  exact h2
set_option maxHeartbeats 16000000 in
theorem layoutChoices_call (x y : Int) (w : World) (wx : (Lit.int .i64 x).wf = true) (wy : (Lit.int .i64 y).wf = true) (hT : Tabs w) :
    Calls Tryd.prog 7 #[.int .i64 x, .int .i64 y] w fun e w' => e = .returned (.bool true) ∧ Below w.heap.size w w' := by
  obtain ⟨ux, hux⟩ := u64_natF x
  obtain ⟨r, hr, hr30⟩ : ∃ r : Nat, (ux : Int) % 30 = (r : Int) ∧ r < 30 := ⟨ux % 30, by omega, by omega⟩
  obtain ⟨uy, huy⟩ := u64_natF y
  obtain ⟨q, hq, hq30⟩ : ∃ q : Nat, (uy : Int) % 30 = (q : Int) ∧ q < 30 := ⟨uy % 30, by omega, by omega⟩
  have HT := Lib.hid hT
  clear hT wx wy
  go_enter Tryd.func7, Tryd.ntmps7
  go_wp2_with fail
  refine (awake17_any w HT.out).mono ?_
  rintro e w1 ⟨rfl, hb1⟩
  have HB := Lib.hid hb1
  clear hb1
  go_upto_region 4 with fail
  obtain ⟨wn, hwn, hwn30⟩ : ∃ wn : Nat, 1 + (r : Int) = (wn : Int) ∧ 1 ≤ wn ∧ wn ≤ 30 := ⟨1 + r, by omega, by omega, by omega⟩
  obtain ⟨k, hk, hk30⟩ : ∃ k : Nat, (q : Int) + 1 = (k : Int) ∧ 1 ≤ k ∧ k ≤ 30 := ⟨q + 1, by omega, by omega, by omega⟩
  rw [hwn]
  have hsl := fun W => run_slice_word ⟨#[119, 119, 119, 119, 119, 119, 119, 119, 119, 119, 119, 119, 119, 119, 119, 119, 119, 119, 119, 119, 119, 119, 119, 119, 119, 119, 119, 119, 119, 119, 119, 119, 119]⟩ k 33 rfl (by omega) W
  have hq1 : IntKind.i64.wrap (k : Int) = (k : Int) := IntWalk.i64_in _ (by omega)
  have HWN := Lib.hid hwn30
  have HK30 := Lib.hid hk30
  have HK := Lib.hid hk
  clear hr hux hr30 hq huy
  go_upto_region 5 with fail
  clear hsl
  go_wp2_with (first | (go_at_call 21; refine (text17_any _ _).mono ?_; rintro e wt ⟨rfl, hbt⟩; have HBX := Lib.hid (HB.out.call hbt); clear HB hbt; have HB := HBX; clear HBX; unfold docV; simp only [dtext, Doc.kind, Doc.text, Doc.brk, Doc.id, Doc.width]) | (go_at_call 24; refine (leaf_any _ _).mono ?_; rintro e wt ⟨rfl, hbt⟩; have HBX := Lib.hid (HB.out.call hbt); clear HB hbt; have HB := HBX; clear HBX; unfold docV; simp only [eDoc, Doc.kind, Doc.text, Doc.brk, Doc.id, Doc.width]))
  refine (cat_any [chW k, .mk 4 ⟨#[]⟩ [] false 0 0, ifD 0 (tD [66]) (tD [70])] _ _ _ _).mono ?_
  rintro e w3 ⟨rfl, hb3⟩
  obtain ⟨W2, hW2⟩ : ∃ W2, W2 = (wt.alloc (.cells (docsCells [(tD [66], nV), (tD [70], nV)]).toArray 24)).alloc (.cells (docsCells [(chW k, nV), (.mk 4 ⟨#[]⟩ [] false 0 0, nV), (ifD 0 (tD [66]) (tD [70]), .slice (some ⟨wt.heap.size, 0, none⟩) 2 2)]).toArray 24) := ⟨_, rfl⟩
  have hb4 : Below W2.heap.size W2 w3 := by rw [hW2]; exact hb3
  have hB1 : Blk w3 wt.heap.size (docsCells [(tD [66], nV), (tD [70], nV)]) 24 := Blk.below (W := W2) (by rw [hW2]; exact (Blk.new' (W := wt) _ _ rfl).alloc _) hb4
  have hB2 : Blk w3 (wt.heap.size + 1) (docsCells [(chW k, nV), (.mk 4 ⟨#[]⟩ [] false 0 0, nV), (ifD 0 (tD [66]) (tD [70]), .slice (some ⟨wt.heap.size, 0, none⟩) 2 2)]) 24 := Blk.below (W := W2) (by rw [hW2]; exact Blk.new' _ _ (by simp)) hb4
  have hw2 : Below w.heap.size w W2 := by rw [hW2]; exact (HB.out.alloc HB.out.size _).alloc (by have := HB.out.size; simp; omega) _
  have hw4 : Below w.heap.size w w3 := hw2.call hb4
  clear hb4 hW2 hw2
  have i1 : InS w3 (ifD 0 (tD [66]) (tD [70])) (.slice (some ⟨wt.heap.size, 0, none⟩) 2 2) := InS.made (cap := 2) (tD [66]) nV [(tD [70], nV)] hB1 (by decide) (by intro p hp; simp at hp; rcases hp with rfl | rfl <;> exact InS.nil rfl) rfl (by simp)
  have i2 : InS w3 (chC k) (.slice (some ⟨wt.heap.size + 1, 0, none⟩) 3 3) := InS.made (cap := 3) (chW k) nV [(.mk 4 ⟨#[]⟩ [] false 0 0, nV), (ifD 0 (tD [66]) (tD [70]), .slice (some ⟨wt.heap.size, 0, none⟩) 2 2)] hB2 (by simp [chW, Doc.kind]) (by
    intro p hp
    simp only [List.mem_cons, List.not_mem_nil, or_false] at hp
    rcases hp with rfl | rfl | rfl
    · exact InS.nil rfl
    · exact InS.nil rfl
    · exact i1) rfl (by simp)
  obtain ⟨V, hV⟩ : ∃ V, V = (w3.alloc (.cells (docsCells [(chC k, .slice (some ⟨wt.heap.size + 1, 0, none⟩) 3 3)]).toArray 24)).alloc (.cells (docCells (chG k) (.slice (some ⟨w3.heap.size, 0, none⟩) 1 1)).toArray 24) := ⟨_, rfl⟩
  have hbV : Below w3.heap.size w3 V := by rw [hV]; exact ((Below.refl _ _).alloc (Nat.le_refl _) _).alloc (by simp) _
  have hB4 : Blk V w3.heap.size (docsCells [(chC k, .slice (some ⟨wt.heap.size + 1, 0, none⟩) 3 3)]) 24 := by rw [hV]; exact (Blk.new' (W := w3) _ _ rfl).alloc _
  have hB5 : Blk V (w3.heap.size + 1) (docCells (chG k) (.slice (some ⟨w3.heap.size, 0, none⟩) 1 1)) 24 := by rw [hV]; exact Blk.new' _ _ (by simp)
  have i3 : InS V (chG k) (.slice (some ⟨w3.heap.size, 0, none⟩) 1 1) := InS.made (cap := 1) (chC k) _ [] hB4 (by simp [chC, Doc.kind]) (by intro p hp; rw [List.mem_singleton] at hp; subst hp; exact i2.next hbV) rfl (by simp)
  have HWV := Lib.hid (hw4.trans (hbV.mono hw4.size))
  have HGB := Lib.hid hB5
  have HGI := Lib.hid i3
  have HVV := Lib.hid hV
  clear hB1 hB2 hw4 i1 i2 hV hbV hB4 hB5 i3 hb3 HB
  unfold docV
  simp only [eDoc, Doc.kind, Doc.text, Doc.brk, Doc.id, Doc.width]
  go_upto_region 6 with fail
  refine Code.wp_world HVV.out ?_
  generalize w3.heap.size + 1 = G at *
  generalize w3.heap.size = g3 at *
  clear HVV
  obtain ⟨vg, hvg⟩ : ∃ vg, vg = Value.slice (some ⟨g3, 0, none⟩) 1 1 := ⟨_, rfl⟩
  rw [← hvg] at HGB HGI
  have HVG := Lib.hid hvg
  clear hvg
  refine wp_region_facts (FC k V.heap.size vg) (fun U => Below V.heap.size V U) 15 _ (by kernel_rfl) rfl (by kernel_rfl) (by kernel_rfl) (Below.refl _ V).drew (FC.next k V.heap.size vg) ?_ ?_
  · intro i oi hoi a U hg hold hdep
    have hi : i < 15 := by have := (List.getElem?_eq_some_iff.1 hoi).1; simpa using this
    obtain rfl | rfl | rfl | rfl | rfl | rfl | rfl | rfl | rfl | rfl | rfl | rfl | rfl | rfl | rfl : i = 0 ∨ i = 1 ∨ i = 2 ∨ i = 3 ∨ i = 4 ∨ i = 5 ∨ i = 6 ∨ i = 7 ∨ i = 8 ∨ i = 9 ∨ i = 10 ∨ i = 11 ∨ i = 12 ∨ i = 13 ∨ i = 14 := by omega
    all_goals
      simp only [List.take_succ_cons, List.take_zero, List.getElem?_cons_zero, List.getElem?_cons_succ, Option.some.injEq] at hoi
      subst hoi
    · have f8 := hold 8 (notDst (by kernel_rfl))
      rw [Array.getD_eq_getD_getElem?] at f8
      change _ = Value.pointer (some ⟨G, 0, none⟩) at f8
      have hGU := HGB.out.below hg
      have c0 := hGU.cell 0
      have c1 := hGU.cell 1
      have c2 := hGU.cell 2
      have c3 := hGU.cell 3
      have c4 := hGU.cell 4
      have c5 := hGU.cell 5
      simp only [docCells, List.getElem?_cons_zero, List.getElem?_cons_succ] at c0 c1 c2 c3 c4 c5
      refine op_K (fun K hK => ?_)
      go_simp
      exact hK (docV (chG k) vg) _ (Below.refl _ _) hg rfl
    · refine op_K (fun K hK => ?_)
      go_simp
      refine (leaf_any _ _).mono ?_
      rintro e wx ⟨rfl, hbx⟩
      exact hK _ _ hbx (hg.call hbx) rfl
    · refine op_K (fun K hK => ?_)
      go_simp
      refine (text17_any _ _).mono ?_
      rintro e wx ⟨rfl, hbx⟩
      exact hK _ _ hbx (hg.call hbx) rfl
    · refine op_K (fun K hK => ?_)
      go_simp
      refine (text17_any _ _).mono ?_
      rintro e wx ⟨rfl, hbx⟩
      exact hK _ _ hbx (hg.call hbx) rfl
    · have f37 := hdep ⟨2, .data⟩ (by simp) rfl _ _ rfl rfl
      rw [Array.getD_eq_getD_getElem?] at f37
      have f38 := hdep ⟨3, .data⟩ (by simp) rfl _ _ rfl rfl
      rw [Array.getD_eq_getD_getElem?] at f38
      change _ = docV _ _ at f37 f38
      unfold docV at f37 f38
      simp only [tD, ifD, chG, chI, chN, chD, eDoc, dtext, Doc.kind, Doc.text, Doc.brk, Doc.id, Doc.width] at f37 f38
      refine op_K (fun K hK => ?_)
      go_simp
      have hbx := (Below.refl U.heap.size U).alloc (Nat.le_refl _) (.cells (docsCells [(tD [98], nV), (tD [102], nV)]).toArray 24)
      exact hK (.slice (some ⟨U.heap.size, 0, none⟩) 2 2) _ hbx (hg.call hbx) ⟨_, rfl, Blk.new U _ _⟩
    · have f39 := hdep ⟨4, .data⟩ (by simp) rfl _ _ rfl rfl
      rw [Array.getD_eq_getD_getElem?] at f39
      obtain ⟨g, f39, hbk⟩ := f39
      refine op_K (fun K hK => ?_)
      go_simp
      exact hK (docV (ifD 1 (tD [98]) (tD [102])) (.slice (some ⟨g, 0, none⟩) 2 2)) _ (Below.refl _ _) hg ⟨g, rfl, InS.made (cap := 2) (tD [98]) nV [(tD [102], nV)] hbk (by decide) (by intro p hp; simp at hp; rcases hp with rfl | rfl <;> exact InS.nil rfl) rfl (by simp)⟩
    · refine op_K (fun K hK => ?_)
      go_simp
      refine (leaf_any _ _).mono ?_
      rintro e wx ⟨rfl, hbx⟩
      exact hK _ _ hbx (hg.call hbx) rfl
    · refine op_K (fun K hK => ?_)
      go_simp
      refine (text17_any _ _).mono ?_
      rintro e wx ⟨rfl, hbx⟩
      exact hK _ _ hbx (hg.call hbx) rfl
    · have f41 := hdep ⟨6, .data⟩ (by simp) rfl _ _ rfl rfl
      rw [Array.getD_eq_getD_getElem?] at f41
      have f42 := hdep ⟨7, .data⟩ (by simp) rfl _ _ rfl rfl
      rw [Array.getD_eq_getD_getElem?] at f42
      change _ = docV _ _ at f41 f42
      unfold docV at f41 f42
      simp only [tD, ifD, chG, chI, chN, chD, eDoc, dtext, Doc.kind, Doc.text, Doc.brk, Doc.id, Doc.width] at f41 f42
      refine op_K (fun K hK => ?_)
      go_simp
      have hbx := (Below.refl U.heap.size U).alloc (Nat.le_refl _) (.cells (docsCells [(hardD, nV), (tD [105], nV)]).toArray 24)
      exact hK (.slice (some ⟨U.heap.size, 0, none⟩) 2 2) _ hbx (hg.call hbx) ⟨_, rfl, Blk.new U _ _⟩
    · have f43 := hdep ⟨8, .data⟩ (by simp) rfl _ _ rfl rfl
      rw [Array.getD_eq_getD_getElem?] at f43
      obtain ⟨g, f43, hbk⟩ := f43
      refine op_K (fun K hK => ?_)
      go_simp
      refine (cat_any [hardD, tD [105]] _ _ _ _).mono ?_
      rintro e wx ⟨rfl, hbx⟩
      exact hK _ _ hbx (hg.call hbx) ⟨g, rfl, InS.made (cap := 2) hardD nV [(tD [105], nV)] (hbk.below hbx) (by decide) (by intro p hp; simp at hp; rcases hp with rfl | rfl <;> exact InS.nil rfl) rfl (by simp)⟩
    · have f44 := hdep ⟨9, .data⟩ (by simp) rfl _ _ rfl rfl
      rw [Array.getD_eq_getD_getElem?] at f44
      obtain ⟨g, f44, hin⟩ := f44
      unfold docV at f44
      simp only [tD, ifD, chG, chI, chN, chD, eDoc, dtext, Doc.kind, Doc.text, Doc.brk, Doc.id, Doc.width] at f44
      refine op_K (fun K hK => ?_)
      go_simp
      have hbx := (Below.refl U.heap.size U).alloc (Nat.le_refl _) (.cells (docsCells [(chI, .slice (some ⟨g, 0, none⟩) 2 2)]).toArray 24)
      exact hK (.slice (some ⟨U.heap.size, 0, none⟩) 1 1) _ hbx (hg.call hbx) ⟨_, rfl, InS.made (cap := 1) chI _ [] (Blk.new U _ _) (by decide) (by intro p hp; rw [List.mem_singleton] at hp; subst hp; exact hin.next hbx) rfl (by simp)⟩
    · have f45 := hdep ⟨10, .data⟩ (by simp) rfl _ _ rfl rfl
      rw [Array.getD_eq_getD_getElem?] at f45
      obtain ⟨g, f45, hin⟩ := f45
      refine op_K (fun K hK => ?_)
      go_simp
      exact hK (docV chN (.slice (some ⟨g, 0, none⟩) 1 1)) _ (Below.refl _ _) hg ⟨g, rfl, hin⟩
    · have f35 := hdep ⟨0, .data⟩ (by simp) rfl _ _ rfl rfl
      rw [Array.getD_eq_getD_getElem?] at f35
      have f36 := hdep ⟨1, .data⟩ (by simp) rfl _ _ rfl rfl
      rw [Array.getD_eq_getD_getElem?] at f36
      have f40 := hdep ⟨5, .data⟩ (by simp) rfl _ _ rfl rfl
      rw [Array.getD_eq_getD_getElem?] at f40
      have f46 := hdep ⟨11, .data⟩ (by simp) rfl _ _ rfl rfl
      rw [Array.getD_eq_getD_getElem?] at f46
      change _ = docV _ _ at f35 f36
      obtain ⟨g1, f40, hin1⟩ := f40
      obtain ⟨g2, f46, hin2⟩ := f46
      have hvg := HVG.out
      have hin0 := HGI.out.next hg
      unfold docV at f35 f36 f40 f46
      simp only [tD, ifD, chG, chI, chN, chD, eDoc, dtext, Doc.kind, Doc.text, Doc.brk, Doc.id, Doc.width] at f35 f36 f40 f46
      subst hvg
      refine op_K (fun K hK => ?_)
      go_simp
      have hbx := (Below.refl U.heap.size U).alloc (Nat.le_refl _) (.cells (docsCells [(chG k, .slice (some ⟨g3, 0, none⟩) 1 1), (hardD, nV), (ifD 1 (tD [98]) (tD [102]), .slice (some ⟨g1, 0, none⟩) 2 2), (chN, .slice (some ⟨g2, 0, none⟩) 1 1)]).toArray 24)
      exact hK (.slice (some ⟨U.heap.size, 0, none⟩) 4 4) _ hbx (hg.call hbx) ⟨_, rfl, InS.made (cap := 4) (chG k) _ [(hardD, nV), (ifD 1 (tD [98]) (tD [102]), .slice (some ⟨g1, 0, none⟩) 2 2), (chN, .slice (some ⟨g2, 0, none⟩) 1 1)] (Blk.new U _ _) (by simp [chG, Doc.kind]) (by
        intro p hp
        simp only [List.mem_cons, List.not_mem_nil, or_false] at hp
        rcases hp with rfl | rfl | rfl | rfl
        · exact hin0.next hbx
        · exact InS.nil rfl
        · exact hin1.next hbx
        · exact hin2.next hbx) rfl (by simp)⟩
    · have f47 := hdep ⟨12, .data⟩ (by simp) rfl _ _ rfl rfl
      rw [Array.getD_eq_getD_getElem?] at f47
      obtain ⟨g, f47, hin⟩ := f47
      refine op_K (fun K hK => ?_)
      go_simp
      refine (cat_any (chD k).kids _ _ _ _).mono ?_
      rintro e wx ⟨rfl, hbx⟩
      exact hK _ _ hbx (hg.call hbx) ⟨g, rfl, hin.next hbx⟩
    · refine op_K (fun K hK => ?_)
      go_simp
      have hbx := (Below.refl U.heap.size U).alloc (Nat.le_refl _) (.cells zeroDoc.toArray 24)
      exact hK (.pointer (some ⟨U.heap.size, 0, none⟩)) _ hbx (hg.call hbx) ⟨_, rfl, hg.size, Blk.new U _ _⟩
  · intro f U hg hf K Q' hK
    obtain ⟨g, e13, hin⟩ := hf 13 (by decide)
    obtain ⟨g9, e14, hg9, hbk⟩ := hf 14 (by decide)
    clear hf
    unfold docV at e13
    simp only [chD, Doc.kind, Doc.text, Doc.brk, Doc.id, Doc.width] at e13
    simp only [List.take_succ_cons, List.take_zero, putAll, Act.put, List.setIfInBounds_toArray, List.set_cons_zero, List.set_cons_succ, e13, e14, Nat.zero_add, Nat.reduceAdd]
    generalize f 0 = v0
    generalize f 1 = v1
    generalize f 2 = v2
    generalize f 3 = v3
    generalize f 4 = v4
    generalize f 5 = v5
    generalize f 6 = v6
    generalize f 7 = v7
    generalize f 8 = v8
    generalize f 9 = v9
    generalize f 10 = v10
    generalize f 11 = v11
    generalize f 12 = v12
    clear e13 e14 f
    have c0 := hbk.cell 0
    have c1 := hbk.cell 1
    have c2 := hbk.cell 2
    have c3 := hbk.cell 3
    have c4 := hbk.cell 4
    have c5 := hbk.cell 5
    have f0 := hbk.frozen 0
    have f1 := hbk.frozen 1
    have f2 := hbk.frozen 2
    have f3 := hbk.frozen 3
    have f4 := hbk.frozen 4
    have f5 := hbk.frozen 5
    simp only [zeroDoc, List.getElem?_cons_zero, List.getElem?_cons_succ] at c0 c1 c2 c3 c4 c5
    have HBU := Lib.hid (HWV.out.trans (hg.mono HWV.out.size))
    have HIN := Lib.hid hin
    have HBK := Lib.hid hbk
    have HG9 := Lib.hid (Nat.le_trans HWV.out.size hg9)
    clear hg hin hbk hg9 HGB HGI HVG HWV
    refine Sealed.mk ?_
    go_simp
    refine hK _ _ ?_
    clear hK K Q' c0 c1 c2 c3 c4 c5 f0 f1 f2 f3 f4 f5
    obtain ⟨kv, hkv⟩ : ∃ kv, kv = Value.slice (some ⟨g, 0, none⟩) 4 4 := ⟨_, rfl⟩
    rw [← hkv] at HIN ⊢
    have HKV := Lib.hid hkv
    clear hkv
    obtain ⟨V9, hV9⟩ : ∃ V9, V9 = ((((((U.setCell ⟨g9, 0, none⟩ (.int .i64 2)).setCell ⟨g9, 1, none⟩ (.string ⟨#[]⟩)).setCell ⟨g9, 2, none⟩ kv).setCell ⟨g9, 3, none⟩ (.bool false)).setCell ⟨g9, 4, none⟩ (.int .i64 0)).setCell ⟨g9, 5, none⟩ (.int .i64 0)) := ⟨_, rfl⟩
    rw [← hV9]
    have hne : ∀ b, Solid U b → b ≠ g9 := by
      rintro b ⟨k0, cs, h1, h2⟩ rfl
      have h3 := HBK.out
      unfold Blk at h2 h3
      rw [h2] at h3
      simp [zeroDoc] at h3
      exact h1 h3.1
    have HB9 : Hid (Blk V9 g9 (docCells (chD k) kv) 24) := Lib.hid (by rw [hV9]; exact set6_blk HBK.out rfl (chD k) kv)
    have HI9 : Hid (InW V9 (chD k) kv) := Lib.hid (by
      have h1 : InF (fun b => b ≠ g9) U (chD k) kv := InF.mono hne HIN.out
      have h2 : InF (fun b => b ≠ g9) V9 (chD k) kv := by rw [hV9]; exact h1.of (fun b hF hb => set6_heap _ _ _ _ _ _ _ _ _ hF) (by simp [World.setCell])
      exact h2.inW)
    have HBV : Hid (Below w.heap.size w V9) := Lib.hid (by rw [hV9]; exact set6_below HBU.out g9 _ _ _ _ _ _ HG9.out)
    have HV9 := Lib.hid hV9
    clear hV9 hne HBU HIN HBK HG9
    clear HV9
    try simp only [Exit.then]
    have hws : (strOf (wordL k)).size = k := by rw [strOf_size]; simp [wordL]
    have hq2 : IntKind.i64.wrap ((q : Int) + 2) = (q : Int) + 2 := IntWalk.i64_in _ (by omega)
    have HLD := Lib.hid (fun (S : ByteArray) (hS : S = strOf (chWant wn k)) (W : World) (hi : InW W (chD k) kv) (hT : Tabs W) => ch_laid wn k HWN.out HK30.out kv S hS W hi hT)
    by_cases hle : k + 1 ≤ wn
    · have hll : decide ((q : Int) + 2 ≤ (wn : Int)) = true := by simp; omega
      have HWT : Hid (strOf (wordL k) ++ ⟨#[70, 10, 102, 10, 105]⟩ = strOf (chWant wn k)) := Lib.hid (by
        unfold chWant
        rw [if_pos hle, show (⟨#[70, 10, 102, 10, 105]⟩ : ByteArray) = strOf [70, 10, 102, 10, 105] from rfl, strOf_append]
        rfl)
      have a0 := HB9.out.cell 0; have a1 := HB9.out.cell 1; have a2 := HB9.out.cell 2; have a3 := HB9.out.cell 3; have a4 := HB9.out.cell 4; have a5 := HB9.out.cell 5; simp only [docCells, chD, Doc.kind, Doc.text, Doc.brk, Doc.id, Doc.width, List.getElem?_cons_zero, List.getElem?_cons_succ] at a0 a1 a2 a3 a4 a5
      clear hk
      go_wp2_with fail
      refine (HLD.out _ HWT.out _ HI9.out (HT.out.below HBV.out)).mono ?_
      rintro e w9 ⟨rfl, hb9⟩
      have HBE := Lib.hid (HBV.out.call hb9)
      clear hb9 a0 a1 a2 a3 a4 a5
      go_wp2_with fail
      go_ret
      exact ⟨rfl, HBE.out⟩
    · have hll : decide ((q : Int) + 2 ≤ (wn : Int)) = false := by simp; omega
      have HWT : Hid (strOf (wordL k) ++ ⟨#[10, 66, 10, 98, 10, 32, 32, 32, 105]⟩ = strOf (chWant wn k)) := Lib.hid (by
        unfold chWant
        rw [if_neg hle, show (⟨#[10, 66, 10, 98, 10, 32, 32, 32, 105]⟩ : ByteArray) = strOf [10, 66, 10, 98, 10, 32, 32, 32, 105] from rfl, strOf_append]
        rfl)
      have a0 := HB9.out.cell 0; have a1 := HB9.out.cell 1; have a2 := HB9.out.cell 2; have a3 := HB9.out.cell 3; have a4 := HB9.out.cell 4; have a5 := HB9.out.cell 5; simp only [docCells, chD, Doc.kind, Doc.text, Doc.brk, Doc.id, Doc.width, List.getElem?_cons_zero, List.getElem?_cons_succ] at a0 a1 a2 a3 a4 a5
      clear hk
      go_wp2_with fail
      refine (HLD.out _ HWT.out _ HI9.out (HT.out.below HBV.out)).mono ?_
      rintro e w9 ⟨rfl, hb9⟩
      have HBE := Lib.hid (HBV.out.call hb9)
      clear hb9 a0 a1 a2 a3 a4 a5
      go_wp2_with fail
      go_ret
      exact ⟨rfl, HBE.out⟩

/-- What the walk gives, for every argument. -/
theorem layoutChoices_contract (H : Type) (enc : TypeId × Value → H) (W : World) (base : Nat) (args : Array Value) (ds gs : List (DataW H)) (before : List MemPlace)
    (hval : ∀ (j : Nat) t v, Tryd.f7.params[j]? = some t → args[j]? = some v → Value.okWide Tryd.prog W .any base t v)
    (hW : DataW.Whole enc Tryd.prog Tryd.f7.params.toList Rows.layoutChoicesSpec.vars false W args.toList ds gs before)
    (hsz : (DataW.weightsEach Tryd.prog (Tryd.f7.params.toList ++ Rows.layoutChoicesSpec.plain.varTypes Tryd.prog) (ds ++ gs)).all (· ≤ reachBytes) = true) (hT : Tabs W) :
    Calls Tryd.prog 7 args W fun e W' => ∃ v, e = .returned v ∧ Rows.layoutChoicesSpec.post enc Tryd.prog Tryd.f7 false true false false W args v W' := by
  have hW' := hW
  obtain ⟨p, q, hA0, hV, rfl, hfz, hnd⟩ := hW
  have hA : DataW.TrodAll enc Tryd.prog W 0 (fun _ => true) true Tryd.f7.params.toList args.toList ds p := hA0
  rw [Tryd.params7] at hA hval hsz
  obtain ⟨v0, vs0, d0, ds0, p0, q0, hargs, rfl, rfl, h0, r0⟩ := trodAll_cons hA
  obtain ⟨v1, vs1, d1, ds1, p1, q1, rfl, rfl, rfl, h1, r1⟩ := trodAll_cons r0
  obtain ⟨rfl, rfl, rfl⟩ := trodAll_nil r1
  obtain rfl : args = #[v0, v1] := by cases args; simp_all
  obtain ⟨rfl, rfl⟩ := trodVars_none hV
  obtain ⟨a0, rfl, rfl, rfl, w0⟩ := open_int Tryd.underlying3 (hval 0 3 v0 rfl rfl) h0
  obtain ⟨a1, rfl, rfl, rfl, w1⟩ := open_int Tryd.underlying3 (hval 1 3 v1 rfl rfl) h1
  clear hA0 hval
  refine (layoutChoices_call a0 a1 W w0 w1 hT).mono fun e W' ⟨he, hb⟩ => ?_
  subst he
  exact ⟨_, rfl, law_post (pa := []) (pv := []) Tryd.underlying4 (by kernel_rfl) hW' rfl (fun sp _ => (trodAll_cons_mk (shut_int Tryd.underlying3 w0) (trodAll_cons_mk (shut_int Tryd.underlying3 w1) trodAll_mk0))) (fun _ _ => rfl) hb⟩

theorem layoutChoices_reads (os : Os) {H : Type} (enc : TypeId × Value → H) : ∃ places, DataW.whole enc Tryd.prog ((laidWorld os).forCall (fun _ _ => 0) ⟨#[], #[.int .i64 0, .int .i64 0], []⟩).memory Tryd.f7.params.toList Rows.layoutChoicesSpec.vars false (#[.int .i64 0, .int .i64 0] : Array Value).toList 8 = some ([.lit (.int .i64 0), .lit (.int .i64 0)], [], places) :=
  ⟨[], by kernel_rfl⟩
theorem layoutChoices_lifted (os : Os) (started : os.Started) (H : Type) (enc : TypeId × Value → H) (F : Stop.Interp) :
    ReturnsInHanded {} Tryd.checked os 7 .any ((OpenSpec.ofChange Rows.layoutChoicesSpec).preRow enc Tryd.prog Tryd.f7 Rows.layoutChoicesRow.domain false Rows.layoutChoicesRow.laid) (((OpenSpec.ofChange Rows.layoutChoicesSpec).at F).post enc Tryd.prog Tryd.f7 false true false false) := by
  obtain ⟨places, hx⟩ := layoutChoices_reads os enc
  refine returnsInHanded_of_row (C := Tryd.checked) (s := (OpenSpec.ofChange Rows.layoutChoicesSpec)) ownKnob_none started (by kernel_rfl) Tryd.func7
    (witness_row_at (enc := enc) (C := Tryd.checked) false (laidWorld os) #[.int .i64 0, .int .i64 0] rfl (by kernel_rfl) (by kernel_rfl) (by kernel_rfl)
      (OpenSpec.preRow_of_cond 8 hx (by kernel_rfl) (fun k hk => by cases hk) (by kernel_rfl) (laid_met os _))) ?_
  intro W base args ds gs before hval hW _ _ hsz hL _ _
  exact layoutChoices_contract H enc W base args ds gs before hval hW hsz (tabs_of_laid hL)
theorem layoutChoices_said : Rows.LayoutChoicesSaid :=
  OpenClaim.holds_of_cond 7 Tryd.f7 rfl rfl rfl rfl rfl rfl rfl ⟨rfl, rfl, rfl, rfl, rfl⟩ rfl rfl rfl rfl rfl (by kernel_rfl) Tryd.func7 (by kernel_rfl)
    (of_decide_eq_true (by kernel_rfl)) (by unfold Func.isWrapper; first | (rw [if_pos (by decide +kernel)]; kernel_rfl) | (rw [if_neg (by decide +kernel)]; exact ⟨rfl, rfl⟩))
    (fun os started H enc _ F => by rw [OpenClaim.pre_eq_preRow]; exact layoutChoices_lifted os started H enc F)
theorem layoutChoices_plain (f : FuncId) (fn : Func) (hf : Tryd.pinned.checked.prog.funcNamed Rows.layoutChoicesRow.func = some f) (hfn : Tryd.pinned.checked.prog.funcs[f]? = some fn) :
    true = Tryd.pinned.checked.prog.looks [] ∧ ∀ (j : Nat) t, fn.params[j]? = some t → Tryd.pinned.checked.prog.wantsStandIn t = false := by
  obtain rfl : f = 7 := Option.some.inj ((show Tryd.prog.funcNamed Rows.layoutChoicesRow.func = some 7 by kernel_rfl).symm.trans hf) |>.symm
  obtain rfl : fn = Tryd.f7 := (Option.some.inj (Tryd.func7.symm.trans hfn)).symm
  refine ⟨by kernel_rfl, fun j t ht => ?_⟩
  rw [Tryd.params7] at ht
  have hm := Array.mem_of_getElem? ht
  have hall : ∀ t ∈ (#[3, 3] : Array TypeId), Tryd.prog.wantsStandIn t = false := by
    intro t ht
    simp only [List.mem_toArray, List.mem_cons, List.mem_nil_iff, or_false] at ht
    rcases ht with rfl | rfl
    all_goals kernel_rfl
  exact hall t hm

/-- THE CARD. -/
theorem layoutChoices_card : Rows.LayoutChoicesCardSaid :=
  Claim7.holds_tied_plain_at .later [] _ _ _ _ layoutChoices_said (fun _ h => by cases h) (by kernel_rfl) (fun _ h => by cases h) layoutChoices_row_tie rfl ⟨rfl, rfl⟩ (by kernel_rfl) rfl layoutChoices_plain (by kernel_rfl)
#print axioms layoutChoices_card
end Go.Proofs.YthljgiimdcbfpaaDoor
