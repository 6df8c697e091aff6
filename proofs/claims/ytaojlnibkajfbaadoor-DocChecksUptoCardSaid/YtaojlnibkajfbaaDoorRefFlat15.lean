/- platenref15.Size, flat, Flat. -/
import Derived.Test.YtaojlnibkajfbaaDoorRefDocCheck
import Derived.Test.YtaojlnibkajfbaaDoorRefForced5
import Derived.Test.YtaojlnibkajfbaaDoorOwnBytes
import Derived.Laws.BytesArg
namespace Go.Proofs.YtaojlnibkajfbaaDoor
open Go.RowKit
set_option maxRecDepth 100000
set_option linter.unusedVariables false
set_option linter.unusedSimpArgs false

theorem byteE : ElemOf Tryd.prog 49 5 1 1 := ElemOf.mk' (.int .u8 0) (by kernel_rfl) (by kernel_rfl) rfl (by omega)
theorem byteE2 : ByteElem Tryd.prog 49 5 := ByteElem.of byteE (by kernel_rfl)

set_option maxHeartbeats 4000000 in
theorem refSize_any (d : Doc) (kv : Value) (w : World) (hk : KV w 0 w.heap.size d kv) (hb : d.bulk ≤ 4194304) :
    Calls Tryd.prog 24 #[docV d kv] w fun e w' => e = .returned (.int .i64 d.sizeN) ∧ Below w.heap.size w w' := by
  obtain ⟨a, cap, rfl⟩ := hk.slice
  have hnb := d.nodes_bulk
  obtain ⟨len, hlen⟩ : ∃ len, len = d.kids.length := ⟨_, rfl⟩
  rw [← hlen] at hk ⊢
  clear hlen
  obtain ⟨W0, hW0⟩ : ∃ W0, W0 = w.alloc (.cells (docCells d (.slice a len cap)).toArray 24) := ⟨_, rfl⟩
  have hst : Blk W0 w.heap.size (docCells d (.slice a len cap)) 24 ∧ Below w.heap.size w W0 := by
    rw [hW0]
    exact ⟨Blk.new _ _ _, (Below.refl _ w).alloc (Nat.le_refl _) _⟩
  have hk0 := (hk.below hst.2 (Nat.le_refl _)).wide (Nat.le_refl _) hst.2.size
  have HC := Lib.hid (refCheck_any d _ W0 hk0 hb)
  have HK0 := Lib.hid hk0
  have HST := Lib.hid hst
  have HW0 := Lib.hid hW0
  have HSZ : Hid (d.sizeN = if d.code = 0 then (d.nodes : Int) else 0) := Lib.hid rfl
  clear hk0 hst hW0 hk
  unfold docV at HC
  unfold docV
  go_enter Tryd.func24, Tryd.ntmps24
  go_wp2_with fail
  refine (Calls.at_world (by rw [HW0.out]; rfl) HC.out).mono ?_
  rintro e w1 ⟨rfl, hb1⟩
  have hb1' : Below W0.heap.size W0 w1 := hb1
  have HB1 := Lib.hid (HST.out.2.call hb1')
  have HX1 := Lib.hid (HST.out.1.below hb1')
  have HK1 := Lib.hid ((HK0.out.below hb1' (Nat.le_refl _)).wide (Nat.le_refl _) hb1'.size)
  clear hb1 hb1' HC
  by_cases hc : d.code = 0
  · have hs : d.sizeN = ((0 + d.nodes : Nat) : Int) := by rw [HSZ.out, if_pos hc]; omega
    have HD := Lib.hid (large_any d _ 0 w1 HK1.out (by omega))
    rw [hc]
    obtain ⟨N, hN⟩ : ∃ N, N = 0 + d.nodes := ⟨_, rfl⟩
    rw [← hN] at HD hs
    have HS := Lib.hid hs
    have c0 := HX1.out.cell 0; have c1 := HX1.out.cell 1; have c2 := HX1.out.cell 2; have c3 := HX1.out.cell 3; have c4 := HX1.out.cell 4; have c5 := HX1.out.cell 5
    simp only [docCells, List.getElem?_cons_zero, List.getElem?_cons_succ] at c0 c1 c2 c3 c4 c5
    unfold docV at HD
    clear hs hc hN HSZ
    go_wp2_with fail
    refine HD.out.mono ?_
    rintro e w2 ⟨rfl, hb2⟩
    have HB2 := Lib.hid (HB1.out.call hb2)
    clear hb2 HD c0 c1 c2 c3 c4 c5
    go_wp2_with fail
    go_ret
    exact ⟨by rw [HS.out]; rfl, HB2.out⟩
  · have hs : d.sizeN = 0 := by rw [HSZ.out, if_neg hc]
    have HS := Lib.hid hs
    have hne : (d.code != 0) = true := by rw [bne_iff_ne]; exact hc
    clear hs hc HSZ
    go_wp2_with fail
    go_ret
    exact ⟨by rw [HS.out]; rfl, HB1.out⟩

/-- Blocks that hold documents stay. -/
def KeepD (w w' : World) : Prop := ∀ b cs, Blk w b cs 24 → Blk w' b cs 24
theorem KeepD.refl (w : World) : KeepD w w := fun _ _ h => h
theorem KeepD.trans {a b c : World} (h : KeepD a b) (k : KeepD b c) : KeepD a c := fun x cs hx => k x cs (h x cs hx)
theorem KeepD.alloc (w : World) (o : Obj) : KeepD w (w.alloc o) := fun _ _ h => h.alloc o
theorem own_ne {W : World} {base n g : Nat} {v : Value} {xs cs : List Value} (h : W.ownsRow base 5 1 v n xs) (hb : Blk W g cs 24) : some g ≠ v.ownBlock := by
  intro he
  rcases h.2 with ⟨e, _⟩ | ⟨g', cap, cur, e, _, hg, _⟩
  · rw [e] at he; cases he
  · rw [e] at he
    simp only [Value.ownBlock, Option.some.injEq] at he
    subst he
    unfold Blk at hb
    rw [hg] at hb
    cases hb
theorem KeepD.grown {W W' : World} {base n : Nat} {v : Value} {xs : List Value} (h : W.ownsRow base 5 1 v n xs) (hg : W.grownBy W' v.ownBlock) : KeepD W W' := fun b cs hb => hb.grown hg (own_ne h hb)
def FlatO (B : Nat) (bs l : List UInt8) (w : World) (e : Ending) (w' : World) : Prop :=
  ∃ v', e = .returned v' ∧ w'.ownsRow B 5 1 v' (bs.length + l.length) (Lib.byteCells (bs ++ l)) ∧ Below B w w' ∧ KeepD w w'
def FltIn (d : Doc) : Prop := ∀ (kv v : Value) (B : Nat) (bs l : List UInt8) (w : World), KV w 0 B d kv → B ≤ w.heap.size → w.ownsRow B 5 1 v bs.length (Lib.byteCells bs) → bs.length + d.bulk ≤ 1099511627776 → d.shape = true → d.bulk ≤ 4194304 → d.flat = some l →
    Calls Tryd.prog 39 #[v, docV d kv] w (FlatO B bs l w)
theorem own_string {W : World} {B n : Nat} {v : Value} {l : List UInt8} (h : W.ownsRow B 5 1 v n (Lib.byteCells l)) : (convert 49 9 v).run Tryd.prog W = .ok (.string ⟨l.toArray⟩) W := by
  by_cases hl : l = []
  · subst hl
    rcases h.2 with ⟨e, _⟩ | ⟨g, cap, cur, e, _⟩
    · subst e
      exact run_convert_bytes_nil (P := Tryd.prog) W _ _ Tryd.underlying49 Tryd.underlying5 0 0 _ Tryd.underlying9
    · have hn : n = 0 := by have := h.1; rw [Lib.byteCells_length] at this; simp at this; omega
      subst e
      subst hn
      exact run_convert_bytes_back (P := Tryd.prog) W 49 9 5 ⟨g, 0, none⟩ cap [] Tryd.underlying49 Tryd.underlying5 Tryd.underlying9 (fun j hj => absurd hj (by simp))
  · obtain ⟨g, cap, rfl, hc⟩ := own_bytes h hl
    exact run_convert_bytes_back (P := Tryd.prog) W 49 9 5 ⟨g, 0, none⟩ cap l Tryd.underlying49 Tryd.underlying5 Tryd.underlying9 hc

theorem flat_kinds (d : Doc) {l : List UInt8} (h : d.shape = true) (hf : d.flat = some l) : (d.kind = 1 → l = d.text.data.toList) ∧ (d.kind = 3 → l = [32]) ∧ (d.kind = 14 → l = []) ∧
    (d.kind = 8 → ∃ h : 0 < d.kids.length, (d.kids[0]).flat = some l) ∧ (d.kind = 10 → ∃ h : 1 < d.kids.length, d.kids.length = 2 ∧ (d.kids[1]).flat = some l) ∧
    (d.kind ≠ 1 → d.kind ≠ 3 → d.kind ≠ 14 → d.kind ≠ 8 → d.kind ≠ 10 → flatL d.kids = some l) := by
  obtain ⟨hfo, _⟩ := shape_bare h
  obtain ⟨f1, f7, f8, f10, fb⟩ := formed_bare hfo
  rw [Doc.flat_eq] at hf
  have hnil : d.kids.length = 0 → d.kids = [] := fun h => List.length_eq_zero_iff.1 h
  refine ⟨fun k => ?_, fun k => ?_, fun k => ?_, fun k => ?_, fun k => ?_, fun k1 k3 k14 k8 k10 => ?_⟩
  · simpa [k] using hf.symm
  · simpa [k] using hf.symm
  · simpa [k] using hf.symm
  · have h0 := f8 k
    refine ⟨h0, ?_⟩
    simp [k] at hf
    obtain ⟨_, hf⟩ := hf
    generalize d.kids = ks at *
    cases ks with
    | nil => simp at h0
    | cons x xs => simpa [flatH] using hf
  · obtain ⟨h0, _⟩ := f10 k
    have h1 : 1 < d.kids.length := by omega
    refine ⟨h1, h0, ?_⟩
    simp [k] at hf
    generalize d.kids = ks at *
    cases ks with
    | nil => simp at h0
    | cons x xs =>
      cases xs with
      | nil => simp at h0
      | cons y ys =>
        have hy : ys = [] := by simpa using h0
        subst hy
        simp only [flatT] at hf
        rw [flatL_one] at hf
        simpa using hf
  · rw [if_neg k1, if_neg k3] at hf
    by_cases k5 : d.kind = 5 ∨ d.kind = 6 ∨ d.kind = 16
    · rw [if_pos k5] at hf; cases hf
    rw [if_neg k5] at hf
    by_cases k4 : d.kind = 4 ∨ d.kind = 15
    · rw [if_pos (.inr k4)] at hf
      rw [hnil (f1 (by omega)).1]
      exact hf
    rw [if_neg (by omega)] at hf
    by_cases k7 : d.kind = 7
    · rw [if_pos (.inl k7)] at hf
      have : d.kids.take 1 = d.kids := List.take_of_length_le (by rw [f7 k7]; omega)
      rw [flatH_take, this] at hf
      split at hf
      · cases hf
      · exact hf
    · rw [if_neg (by omega), if_neg k10] at hf
      exact hf

set_option maxHeartbeats 3000000 in
theorem flat15_any (d : Doc) : FltIn d := by
  refine Doc.ind (P := FltIn) (fun d ih => ?_) d
  intro kv v B bs l w hk hB hown hbd hsh hb hfl
  obtain ⟨h1, h2⟩ := shape_bare hsh
  obtain ⟨k1, k3, k14, k8, k10, ko⟩ := flat_kinds d hsh hfl
  obtain ⟨a, cap, rfl⟩ := hk.slice
  have hkid := fun j hj => hk.kid (j := j) hj
  have hmem : ∀ j (hj : j < d.kids.length), FltIn d.kids[j] ∧ (d.kids[j]).bulk ≤ 4194304 ∧ (d.kids[j]).shape = true ∧ bs.length + (d.kids[j]).bulk ≤ 1099511627776 := fun j hj => ⟨ih _ (List.getElem_mem hj), by have := Doc.kid_bulk (List.getElem_mem hj); omega, h2 _ (List.getElem_mem hj), by have := Doc.kid_bulk (List.getElem_mem hj); omega⟩
  have hlen : d.kids.length < 4194304 := by have := d.kids_len; omega
  have htx : bs.length + d.text.size ≤ 1099511627776 := by have := d.bulk_eq; omega
  have hbl : bs.length + bulkL d.kids ≤ 1099511627776 := by have := d.bulk_eq; omega
  obtain ⟨B0, hB0⟩ : ∃ B0, B0 = w.heap.size := ⟨_, rfl⟩
  obtain ⟨W0, hW0⟩ : ∃ W0, W0 = w.alloc (.cells (docCells d (.slice a d.kids.length cap)).toArray 24) := ⟨_, rfl⟩
  have hst : Blk W0 B0 (docCells d (.slice a d.kids.length cap)) 24 ∧ Below w.heap.size w W0 ∧ KeepD w W0 := by
    rw [hW0]
    exact ⟨Blk.new' _ _ hB0, (Below.refl _ w).alloc (Nat.le_refl _) _, KeepD.alloc _ _⟩
  have hown0 : W0.ownsRow B 5 1 v bs.length (Lib.byteCells bs) := own_below hown hst.2.1
  obtain ⟨len, hlen2⟩ : ∃ z, z = d.kids.length := ⟨_, rfl⟩
  rw [← hlen2] at hlen hst hW0
  have HKID := Lib.hid hkid
  have HMEM := Lib.hid hmem
  have HLEN := Lib.hid hlen2
  have HST := Lib.hid hst
  have HW0 := Lib.hid hW0
  have HB0 := Lib.hid hB0
  have HO := Lib.hid hown
  have HO0 := Lib.hid hown0
  have HK := Lib.hid hk
  clear hk hkid hmem ih hst hW0 hB0 h1 h2 hsh hown hown0 hfl
  rw [← hlen2]
  clear hlen2
  obtain ⟨kk, hkk⟩ : ∃ kk, kk = d.kind := ⟨_, rfl⟩
  unfold docV
  simp only [docCells] at HW0 HST
  rw [← hkk] at k1 k3 k14 k8 k10 ko HST HW0 ⊢
  clear hkk
  have hkc : ((kk == 1) = true ∧ kk = 1) ∨ (((kk == 1) = false ∧ (kk == 3) = true) ∧ kk = 3) ∨ (((kk == 1) = false ∧ (kk == 3) = false ∧ (kk == 14) = true) ∧ kk = 14) ∨
      (((kk == 1) = false ∧ (kk == 3) = false ∧ (kk == 14) = false ∧ (kk == 8) = true) ∧ kk = 8) ∨ (((kk == 1) = false ∧ (kk == 3) = false ∧ (kk == 14) = false ∧ (kk == 8) = false ∧ (kk == 10) = true) ∧ kk = 10) ∨
      (((kk == 1) = false ∧ (kk == 3) = false ∧ (kk == 14) = false ∧ (kk == 8) = false ∧ (kk == 10) = false) ∧ (kk ≠ 1 ∧ kk ≠ 3 ∧ kk ≠ 14 ∧ kk ≠ 8 ∧ kk ≠ 10)) := by
    simp only [beq_iff_eq, beq_eq_false_iff_ne, ne_eq]
    omega
  rcases hkc with ⟨e1, ek⟩ | ⟨⟨e1, e2⟩, ek⟩ | ⟨⟨e1, e2, e3⟩, ek⟩ | ⟨⟨e1, e2, e3, e4⟩, ek⟩ | ⟨⟨e1, e2, e3, e4, e5⟩, ek⟩ | ⟨⟨e1, e2, e3, e4, e5⟩, ek⟩
  · have hl := k1 ek
    have HL := Lib.hid hl
    clear hl k1 k3 k14 k8 k10 ko ek
    have hWb : Below w.heap.size w W0 := HST.out.2.1
    go_enter Tryd.func39, Tryd.ntmps39
    go_wp2_with (at_builtin
                 refine wpList_append_str rfl (.tmp 10) (.tmp 12) _ _ _ rfl byteE2 Tryd.underlying9 w w B (Below.refl _ w) hB ((Below.refl _ w).alloc (Nat.le_refl _) _) v bs.length bs rfl HO.out d.text rfl (by unfold maxLen; omega) (by omega) ?_
                 intro v' W' ho' hb' hg' hlt9
                 have HO2 := Lib.hid ho'
                 have HB2 := Lib.hid hb'
                 have HG2 := Lib.hid hg'
                 clear ho' hb' hg' hlt9)
    go_ret
    refine ⟨v', rfl, ?_, HB2.out, ?_⟩
    · rw [HL.out]
      have := HO2.out
      rw [show d.text.size = d.text.data.toList.length by simp] at this
      exact this
    · exact (KeepD.alloc _ _).trans (KeepD.grown (own_below HO.out ((Below.refl _ w).alloc (Nat.le_refl _) _)) HG2.out)
  · have hl := k3 ek
    have HL := Lib.hid hl
    clear hl k1 k3 k14 k8 k10 ko ek
    go_enter Tryd.func39, Tryd.ntmps39
    go_wp2_with (at_builtin
                 refine wpList_append_blk rfl (.tmp 16) (.tmp 17) _ _ 1 1 rfl byteE w w B (Below.refl _ w) hB (((Below.refl _ w).alloc (Nat.le_refl _) _).alloc (by simp) _) v bs.length (Lib.byteCells bs) rfl HO.out _ 1 [.int .u8 32] rfl (Blk.new' [.int .u8 32] _ (by simp)) rfl (fun u hu => by simp at hu; subst hu; rfl) (by unfold maxLen; omega) (by omega) ?_
                 intro v' W' ho' hb' hg' hlt9
                 have HO2 := Lib.hid ho'
                 have HB2 := Lib.hid hb'
                 have HG2 := Lib.hid hg'
                 clear ho' hb' hg' hlt9)
    go_ret
    refine ⟨v', rfl, ?_, HB2.out, ?_⟩
    · rw [HL.out, bcells_app]
      exact HO2.out
    · exact ((KeepD.alloc _ _).trans (KeepD.alloc _ _)).trans (KeepD.grown (own_below HO.out (((Below.refl _ w).alloc (Nat.le_refl _) _).alloc (by simp) _)) HG2.out)
  · have hl := k14 ek
    have HL := Lib.hid hl
    clear hl k1 k3 k14 k8 k10 ko ek
    go_enter Tryd.func39, Tryd.ntmps39
    go_wp2_with fail
    go_ret
    refine ⟨v, rfl, ?_, (Below.refl _ w).alloc hB _, KeepD.alloc _ _⟩
    rw [HL.out, List.append_nil]
    exact own_below HO.out ((Below.refl _ w).alloc (Nat.le_refl _) _)
  · obtain ⟨h0, hfk⟩ := k8 ek
    have h0i : (0 : Int) < (len : Int) := by have := HLEN.out; omega
    obtain ⟨g, off, rfl, _, hg, kv2, h6, hk2⟩ := HKID.out 0 h0
    have h6' := h6.of (HST.out.2.1.block _ (by omega))
    have hkw : KV W0 0 B (d.kids[0]'h0) kv2 := hk2.below HST.out.2.1 hB
    have HC := Lib.hid ((HMEM.out 0 h0).1 kv2 v B bs l W0 hkw (by have := HST.out.2.1.size; omega) HO0.out (HMEM.out 0 h0).2.2.2 (HMEM.out 0 h0).2.2.1 (HMEM.out 0 h0).2.1 hfk)
    have g0 := h6'.kind
    have g1 := h6'.text
    have g2 := h6'.kids
    have g3 := h6'.brk
    have g4 := h6'.id
    have g5 := h6'.width
    rw [HW0.out] at g0 g1 g2 g3 g4 g5
    simp only [Nat.zero_mul, Nat.add_zero] at g0 g1 g2 g3 g4 g5
    clear h6 h6' hk2 hkw hfk k1 k3 k14 k8 k10 ko ek
    generalize d.kids[0]'h0 = K at *
    unfold docV at HC
    go_enter Tryd.func39, Tryd.ntmps39
    go_wp2_with fail
    refine (Calls.at_world (by rw [HW0.out]) HC.out).mono ?_
    rintro e w1 ⟨v', rfl, ho1, hb1, hd1⟩
    have HO1 := Lib.hid ho1
    have HB1 := Lib.hid ((HST.out.2.1.mono hB).trans (show Below B W0 w1 from hb1))
    have HD1 := Lib.hid (HST.out.2.2.trans hd1)
    clear ho1 hb1 hd1
    go_wp2_with fail
    go_ret
    exact ⟨v', rfl, HO1.out, HB1.out, HD1.out⟩
  · obtain ⟨h0, hl2, hfk⟩ := k10 ek
    have h0i : (1 : Int) < (len : Int) := by have := HLEN.out; omega
    obtain ⟨g, off, rfl, _, hg, kv2, h6, hk2⟩ := HKID.out 1 h0
    have h6' := h6.of (HST.out.2.1.block _ (by omega))
    have hkw : KV W0 0 B (d.kids[1]'h0) kv2 := hk2.below HST.out.2.1 hB
    have HC := Lib.hid ((HMEM.out 1 h0).1 kv2 v B bs l W0 hkw (by have := HST.out.2.1.size; omega) HO0.out (HMEM.out 1 h0).2.2.2 (HMEM.out 1 h0).2.2.1 (HMEM.out 1 h0).2.1 hfk)
    have g0 := h6'.kind
    have g1 := h6'.text
    have g2 := h6'.kids
    have g3 := h6'.brk
    have g4 := h6'.id
    have g5 := h6'.width
    rw [HW0.out] at g0 g1 g2 g3 g4 g5
    clear h6 h6' hk2 hkw hfk k1 k3 k14 k8 k10 ko ek hl2
    generalize d.kids[1]'h0 = K at *
    unfold docV at HC
    go_enter Tryd.func39, Tryd.ntmps39
    go_wp2_with fail
    refine (Calls.at_world (by rw [HW0.out]) HC.out).mono ?_
    rintro e w1 ⟨v', rfl, ho1, hb1, hd1⟩
    have HO1 := Lib.hid ho1
    have HB1 := Lib.hid ((HST.out.2.1.mono hB).trans (show Below B W0 w1 from hb1))
    have HD1 := Lib.hid (HST.out.2.2.trans hd1)
    clear ho1 hb1 hd1
    go_wp2_with fail
    go_ret
    exact ⟨v', rfl, HO1.out, HB1.out, HD1.out⟩
  · have hfk := ko ek.1 ek.2.1 ek.2.2.1 ek.2.2.2.1 ek.2.2.2.2
    have HFK := Lib.hid hfk
    clear hfk k1 k3 k14 k8 k10 ko ek
    go_enter Tryd.func39, Tryd.ntmps39
    go_wp2_with fail
    rw [← HB0.out]
    go_loopw [0, 5] (fun v i wr => ∃ (j : Nat) (m : List UInt8), j ≤ len ∧ i = .int .i64 (j : Int) ∧ flatL (d.kids.take j) = some m ∧ wr.ownsRow B 5 1 v (bs ++ m).length (Lib.byteCells (bs ++ m)) ∧ Blk wr B0 [.int .i64 kk, .string d.text, .slice a len cap, .bool d.brk, .int .i64 d.id, .int .i64 d.width] 24 ∧ w.heap.size ≤ wr.heap.size ∧ Below B w wr ∧ KeepD w wr) (fun _ i _ => len - (intOf i).toNat)
    case atStart =>
      have h := HST.out
      have ho := HO0.out
      rw [HW0.out] at h ho
      exact ⟨0, [], Nat.zero_le _, rfl, rfl, by rw [List.append_nil]; exact ho, h.1, h.2.1.size, h.2.1.mono hB, h.2.2⟩
    case round =>
      obtain ⟨j, m, hj, rfl, hfl, hown, hbk, hsz, hbw, hkd⟩ := hrel
      have c2 := hbk.cell 2
      simp only [List.getElem?_cons_zero, List.getElem?_cons_succ] at c2
      have HFL := Lib.hid hfl
      have HOW := Lib.hid hown
      have HBK := Lib.hid hbk
      have HBW := Lib.hid hbw
      have HKD := Lib.hid hkd
      clear hfl hown hkd
      by_cases hlt : j < len
      · have hjm : (j : Int) < (len : Int) := by omega
        have hj2 : j < d.kids.length := by rw [← HLEN.out]; exact hlt
        obtain ⟨g, off, rfl, _, hg, kv2, h6, hk2⟩ := HKID.out j hj2
        have h6' := h6.of (hbw.block _ hg)
        have hkw : KV wr 0 B (d.kids[j]'hj2) kv2 := hk2.of (Nat.le_refl _) (Nat.le_refl _) (fun b _ h => hbw.block b h)
        have hbd2 : (bs ++ m).length + (d.kids[j]'hj2).bulk ≤ 1099511627776 := by have := flatL_bd hj2 HFL.out; rw [List.length_append]; omega
        obtain ⟨q, hq⟩ : ∃ q, (d.kids[j]'hj2).flat = some q := by
          cases hq : (d.kids[j]'hj2).flat with
          | some q => exact ⟨q, rfl⟩
          | none => have := flatL_stop hj2 hq; rw [HFK.out] at this; cases this
        have HM := Lib.hid (flatL_more hj2 HFL.out hq)
        have HC := Lib.hid ((HMEM.out j hj2).1 kv2 u0 B (bs ++ m) q wr hkw (by omega) HOW.out hbd2 (HMEM.out j hj2).2.2.1 (HMEM.out j hj2).2.1 hq)
        have g0 := h6'.kind
        have g1 := h6'.text
        have g2 := h6'.kids
        have g3 := h6'.brk
        have g4 := h6'.id
        have g5 := h6'.width
        generalize d.kids[j]'hj2 = K at *
        clear h6 h6' hk2 hbk hbw hkw hq hbd2
        unfold docV at HC
        go_wp2_with fail
        refine HC.out.mono ?_
        rintro e w1 ⟨v', rfl, ho1, hb1, hd1⟩
        have HO1 := Lib.hid ho1
        have HB1 := Lib.hid (HBW.out.trans hb1)
        have HD1 := Lib.hid (HKD.out.trans hd1)
        have HX1 := Lib.hid (hd1 _ _ HBK.out)
        have hsz1 := hb1.size
        clear ho1 hb1 hd1 c2 g0 g1 g2 g3 g4 g5
        go_wp2_with fail
        go_roundw
        case rel =>
          refine ⟨j + 1, m ++ q, by omega, by go_num, HM.out, ?_, HX1.out, by omega, HB1.out, HD1.out⟩
          have := HO1.out
          rw [← List.length_append, List.append_assoc] at this
          exact this
        case measure => simp [intOf]; omega
      · have hjm : (len : Int) ≤ (j : Int) := by omega
        have hml : m = l := by
          have h1 := HFL.out
          rw [List.take_of_length_le (by have := HLEN.out; omega), HFK.out] at h1
          cases h1
          rfl
        subst hml
        clear hbk hbw
        go_wp2_with fail
        go_ret
        refine ⟨_, rfl, ?_, HBW.out, HKD.out⟩
        rw [← List.length_append]
        exact HOW.out

set_option maxHeartbeats 4000000 in
theorem refFlat_any (d : Doc) (kv : Value) (w : World) (hk : KV w 0 w.heap.size d kv) (hb : d.bulk ≤ 4194304) :
    Calls Tryd.prog 21 #[docV d kv] w fun e w' => e = .returned (.tuple #[.string d.flatS, .bool d.flatOk]) ∧ Below w.heap.size w w' := by
  obtain ⟨a, cap, rfl⟩ := hk.slice
  obtain ⟨len, hlen⟩ : ∃ len, len = d.kids.length := ⟨_, rfl⟩
  rw [← hlen] at hk ⊢
  clear hlen
  obtain ⟨W0, hW0⟩ : ∃ W0, W0 = w.alloc (.cells (docCells d (.slice a len cap)).toArray 24) := ⟨_, rfl⟩
  have hst : Blk W0 w.heap.size (docCells d (.slice a len cap)) 24 ∧ Below w.heap.size w W0 := by
    rw [hW0]
    exact ⟨Blk.new _ _ _, (Below.refl _ w).alloc (Nat.le_refl _) _⟩
  have hk0 := (hk.below hst.2 (Nat.le_refl _)).wide (Nat.le_refl _) hst.2.size
  have HC := Lib.hid (refCheck_any d _ W0 hk0 hb)
  have HK0 := Lib.hid hk0
  have HST := Lib.hid hst
  have HW0 := Lib.hid hW0
  have HV : Hid (d.flatV = if d.code = 0 then d.flat else Option.none) := Lib.hid rfl
  clear hk0 hst hW0 hk
  unfold docV at HC
  unfold docV
  go_enter Tryd.func21, Tryd.ntmps21
  go_wp2_with fail
  refine (Calls.at_world (by rw [HW0.out]; rfl) HC.out).mono ?_
  rintro e w1 ⟨rfl, hb1⟩
  have hb1' : Below W0.heap.size W0 w1 := hb1
  have HB1 := Lib.hid (HST.out.2.call hb1')
  have HX1 := Lib.hid (HST.out.1.below hb1')
  have HK1 := Lib.hid ((HK0.out.below hb1' (Nat.le_refl _)).wide (Nat.le_refl _) hb1'.size)
  clear hb1 hb1' HC
  by_cases hc : d.code = 0
  · have hsh := (code_shape hc).1
    have hf : d.flatV = d.flat := by rw [HV.out, if_pos hc]
    have HD := Lib.hid (forced5_any d _ w1 HK1.out hsh hb)
    have HSH := Lib.hid hsh
    rw [hc]
    have c0 := HX1.out.cell 0; have c1 := HX1.out.cell 1; have c2 := HX1.out.cell 2; have c3 := HX1.out.cell 3; have c4 := HX1.out.cell 4; have c5 := HX1.out.cell 5
    simp only [docCells, List.getElem?_cons_zero, List.getElem?_cons_succ] at c0 c1 c2 c3 c4 c5
    unfold docV at HD
    clear hsh hc
    go_wp2_with fail
    refine HD.out.mono ?_
    rintro e w2 ⟨rfl, hb2⟩
    have HB2 := Lib.hid (HB1.out.call hb2)
    have HX2 := Lib.hid (HX1.out.below hb2)
    have HK2 := Lib.hid ((HK1.out.below hb2 (Nat.le_refl _)).wide (Nat.le_refl _) hb2.size)
    clear hb2 HD c0 c1 c2 c3 c4 c5
    cases hfl : d.flat with
    | none =>
      have HE : Hid (d.flatS = ⟨#[]⟩ ∧ d.flatOk = false) := Lib.hid (by unfold Doc.flatS Doc.flatOk; rw [hf, hfl]; exact ⟨rfl, rfl⟩)
      have hfr : d.frc5 = true := by unfold Doc.frc5; rw [hfl]; rfl
      rw [hfr]
      clear hf hfl hfr
      go_wp2_with fail
      go_ret2
      exact ⟨by first | (rw [HE.out.1, HE.out.2]; done) | (rw [HE.out.1, HE.out.2]; rfl), HB2.out⟩
    | some l =>
      have HE : Hid (d.flatS = ⟨l.toArray⟩ ∧ d.flatOk = true) := Lib.hid (by unfold Doc.flatS Doc.flatOk; rw [hf, hfl]; exact ⟨rfl, rfl⟩)
      have hfr : d.frc5 = false := by unfold Doc.frc5; rw [hfl]; rfl
      rw [hfr]
      have HF := Lib.hid (flat15_any d _ (.slice none 0 0) w2.heap.size [] l w2 HK2.out (Nat.le_refl _) (World.ownsRow_nil _ _ _ _) (by simp; omega) HSH.out hb hfl)
      have c0 := HX2.out.cell 0; have c1 := HX2.out.cell 1; have c2 := HX2.out.cell 2; have c3 := HX2.out.cell 3; have c4 := HX2.out.cell 4; have c5 := HX2.out.cell 5
      simp only [docCells, List.getElem?_cons_zero, List.getElem?_cons_succ] at c0 c1 c2 c3 c4 c5
      unfold docV at HF
      clear hf hfl hfr
      go_wp2_with fail
      refine HF.out.mono ?_
      rintro e w3 ⟨v', rfl, ho3, hb3, _⟩
      rw [List.nil_append] at ho3
      have hcv := own_string ho3
      have HB3 := Lib.hid (HB2.out.call hb3)
      clear ho3 hb3 c0 c1 c2 c3 c4 c5 HF
      go_wp2_with fail
      go_ret2
      exact ⟨by first | (rw [HE.out.1, HE.out.2]; done) | (rw [HE.out.1, HE.out.2]; rfl), HB3.out⟩
  · have HD : Hid (d.flatS = ⟨#[]⟩ ∧ d.flatOk = false) := Lib.hid (by unfold Doc.flatS Doc.flatOk; rw [HV.out, if_neg hc]; exact ⟨rfl, rfl⟩)
    have hne : (d.code != 0) = true := by rw [bne_iff_ne]; exact hc
    clear hc
    go_wp2_with fail
    go_ret2
    exact ⟨by first | (rw [HD.out.1, HD.out.2]; done) | (rw [HD.out.1, HD.out.2]; rfl), HB1.out⟩
end Go.Proofs.YtaojlnibkajfbaaDoor
