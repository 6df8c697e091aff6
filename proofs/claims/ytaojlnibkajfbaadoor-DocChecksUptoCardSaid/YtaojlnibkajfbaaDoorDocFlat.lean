/- doc.Flat. -/
import Derived.Test.YtaojlnibkajfbaaDoorDocFlatlyB
import Derived.Test.YtaojlnibkajfbaaDoorDocFlatlyC
import Derived.Test.YtaojlnibkajfbaaDoorBuilderS
namespace Go.Proofs.YtaojlnibkajfbaaDoor
open Go.RowKit
set_option maxRecDepth 100000
set_option linter.unusedVariables false
set_option linter.unusedSimpArgs false

theorem shapeL_mem {ks : List Doc} (h : shapeL ks = true) : ∀ x ∈ ks, x.shape = true := by
  induction ks with
  | nil => simp
  | cons d ds ih =>
    simp only [shapeL, Bool.and_eq_true] at h
    intro x hx
    rcases List.mem_cons.1 hx with rfl | hx
    · exact h.1
    · exact ih h.2 x hx
theorem flatly_any (d : Doc) : ∀ (kv : Value) (g off B b : Nat) (bs : List UInt8) (w : World), Six w g off d kv → KV w 0 B d kv → B ≤ w.heap.size → Held B b bs w → bs.length + d.bulk ≤ 1099511627776 → d.shape = true →
    Calls Tryd.prog 34 #[.pointer (some ⟨g, off, none⟩), .func (.func 35) #[] #[.pointer (some ⟨b, 0, none⟩)]] w (FlatOut d B b bs w) := by
  refine Doc.ind (P := fun d => ∀ (kv : Value) (g off B b : Nat) (bs : List UInt8) (w : World), Six w g off d kv → KV w 0 B d kv → B ≤ w.heap.size → Held B b bs w → bs.length + d.bulk ≤ 1099511627776 → d.shape = true →
    Calls Tryd.prog 34 #[.pointer (some ⟨g, off, none⟩), .func (.func 35) #[] #[.pointer (some ⟨b, 0, none⟩)]] w (FlatOut d B b bs w)) (fun d ih => ?_) d
  intro kv g off B b bs w h6 hk hB hh hbd hsh
  obtain ⟨a, cap, rfl⟩ := hk.slice
  have hcap := hk.cap
  have hkids : 0 < d.kids.length → ∃ g' off', a = some ⟨g', off', none⟩ ∧ KidsGo B b w d.kids g' off' := by
    intro h0
    obtain ⟨g', off', rfl, _, hg', kv', _, _⟩ := hk.kid h0
    refine ⟨g', off', rfl, fun j hj bs' W hW hh' hb' => ?_⟩
    obtain ⟨g2, off2, e, _, hg2, kv2, h62, hk2⟩ := hk.kid hj
    cases e
    have hs : ∀ c, c < B → W.heap[c]? = w.heap[c]? := fun c hc => hW.block c hc
    have hsj : (d.kids[j]).shape = true := by
      rw [Doc.shape_eq] at hsh
      simp only [Bool.and_eq_true] at hsh
      exact shapeL_mem hsh.2 _ (List.getElem_mem hj)
    exact ih _ (List.getElem_mem hj) kv2 _ _ B b bs' W (h62.of (hs _ hg2)) (hk2.of (Nat.le_refl _) (Nat.le_refl _) (fun c _ hc => hs c hc)) (Nat.le_trans hB hW.size) hh' hb' hsj
  have hf : d.formed = true := by
    rw [Doc.shape_eq] at hsh
    simp only [Bool.and_eq_true] at hsh
    exact hsh.1
  cases d with
  | mk k t ks brk i y =>
    have hk16 : 1 ≤ k ∧ k ≤ 16 := by
      by_cases h : 1 ≤ k ∧ k ≤ 16
      · exact h
      · have hf' : formedF k t ks.length brk i y = true := hf
        rw [formedF_other k h] at hf'
        cases hf'
    have h0 := h6.kind
    have h1 := h6.text
    have h2 := h6.kids
    have h3 := h6.brk
    simp only [Doc.kind, Doc.text, Doc.kids, Doc.brk] at h0 h1 h2 h3 hcap hkids
    clear h6 hk ih hf
    have : k = 1 ∨ k = 2 ∨ k = 3 ∨ k = 4 ∨ k = 5 ∨ k = 6 ∨ k = 7 ∨ k = 8 ∨ k = 9 ∨ k = 10 ∨ k = 11 ∨ k = 12 ∨ k = 13 ∨ k = 14 ∨ k = 15 ∨ k = 16 := by omega
    rcases this with rfl | rfl | rfl | rfl | rfl | rfl | rfl | rfl | rfl | rfl | rfl | rfl | rfl | rfl | rfl | rfl
    · exact flatly_1 t ks brk i y a cap g off B b bs w h0 h1 h2 h3 hcap hB hh hbd hsh hkids
    · exact flatly_2 t ks brk i y a cap g off B b bs w h0 h1 h2 h3 hcap hB hh hbd hsh hkids
    · exact flatly_3 t ks brk i y a cap g off B b bs w h0 h1 h2 h3 hcap hB hh hbd hsh hkids
    · exact flatly_4 t ks brk i y a cap g off B b bs w h0 h1 h2 h3 hcap hB hh hbd hsh hkids
    · exact flatly_5 t ks brk i y a cap g off B b bs w h0 h1 h2 h3 hcap hB hh hbd hsh hkids
    · exact flatly_6 t ks brk i y a cap g off B b bs w h0 h1 h2 h3 hcap hB hh hbd hsh hkids
    · exact flatly_7 t ks brk i y a cap g off B b bs w h0 h1 h2 h3 hcap hB hh hbd hsh hkids
    · exact flatly_8 t ks brk i y a cap g off B b bs w h0 h1 h2 h3 hcap hB hh hbd hsh hkids
    · exact flatly_9 t ks brk i y a cap g off B b bs w h0 h1 h2 h3 hcap hB hh hbd hsh hkids
    · exact flatly_10 t ks brk i y a cap g off B b bs w h0 h1 h2 h3 hcap hB hh hbd hsh hkids
    · exact flatly_11 t ks brk i y a cap g off B b bs w h0 h1 h2 h3 hcap hB hh hbd hsh hkids
    · exact flatly_12 t ks brk i y a cap g off B b bs w h0 h1 h2 h3 hcap hB hh hbd hsh hkids
    · exact flatly_13 t ks brk i y a cap g off B b bs w h0 h1 h2 h3 hcap hB hh hbd hsh hkids
    · exact flatly_14 t ks brk i y a cap g off B b bs w h0 h1 h2 h3 hcap hB hh hbd hsh hkids
    · exact flatly_15 t ks brk i y a cap g off B b bs w h0 h1 h2 h3 hcap hB hh hbd hsh hkids
    · exact flatly_16 t ks brk i y a cap g off B b bs w h0 h1 h2 h3 hcap hB hh hbd hsh hkids

/-- What Flat answers. -/
def Doc.flatV (d : Doc) : Option (List UInt8) := if d.code = 0 then d.flat else Option.none
def Doc.flatS (d : Doc) : ByteArray := match d.flatV with | some l => ⟨l.toArray⟩ | none => ⟨#[]⟩
def Doc.flatOk (d : Doc) : Bool := d.flatV.isSome
theorem code_shape {d : Doc} (h : d.code = 0) : d.shape = true ∧ d.depth ≤ 64000 := by
  unfold Doc.code at h
  split at h
  · cases h
  · split at h
    · exact ⟨by assumption, by omega⟩
    · cases h

set_option maxHeartbeats 1000000 in
theorem flat_any (d : Doc) (kv : Value) (w : World) (hk : KV w 0 w.heap.size d kv) (hb : d.bulk ≤ 4194304) (hT : Tabs w) :
    Calls Tryd.prog 20 #[docV d kv] w fun e w' => e = .returned (.tuple #[.string d.flatS, .bool d.flatOk]) ∧ Below w.heap.size w w' := by
  have hal := (Below.refl w.heap.size w).alloc (Nat.le_refl _) (.cells #[.int .i64 d.kind, .string d.text, kv, .bool d.brk, .int .i64 d.id, .int .i64 d.width] 24)
  have h6 := six_new w d kv
  obtain ⟨W1, hW1⟩ : ∃ W1, W1 = w.alloc (.cells #[.int .i64 d.kind, .string d.text, kv, .bool d.brk, .int .i64 d.id, .int .i64 d.width] 24) := ⟨_, rfl⟩
  rw [← hW1] at hal h6
  have hz1a : W1.heap.size ≤ w.heap.size + 1 := by rw [hW1]; simp
  have hz1b : w.heap.size + 1 ≤ W1.heap.size := by rw [hW1]; simp
  have HAL := Lib.hid hal
  have H6 := Lib.hid h6
  have HK := Lib.hid hk
  have HT := Lib.hid hT
  have HW1 := Lib.hid hW1
  clear hal h6 hk hT hW1
  unfold docV
  go_enter Tryd.func20, Tryd.ntmps20
  go_wp2_with fail
  rw [← HW1.out]
  have hal2 : Below w.heap.size w (W1.alloc (.cells #[.pointer none, .slice none 0 0] 51)) := HAL.out.alloc (by omega) _
  have hbk := Blk.new' (W := W1) (g := w.heap.size + 1) [.pointer none, .slice none 0 0] 51 (by omega)
  have h62 : Six (W1.alloc (.cells #[.pointer none, .slice none 0 0] 51)) w.heap.size 0 d kv := H6.out.of (Below.heap_alloc _ _ _ (by omega))
  refine (check_any d kv _ ((HK.out.below hal2 (Nat.le_refl _)).wide (Nat.le_refl _) (by simp; omega)) hb (HT.out.below hal2)).mono ?_
  rintro e w2 ⟨rfl, hb2⟩
  have hz2 := hb2.size
  simp only [World.size_alloc] at hz2
  have HB2 := Lib.hid (hal2.call hb2)
  have HBK := Lib.hid (hbk.below hb2)
  have H62 := Lib.hid (h62.of (hb2.block _ (by simp; omega)))
  have HV : Hid (d.flatV = if d.code = 0 then d.flat else Option.none) := Lib.hid rfl
  clear hal2 hbk h62 hb2
  by_cases hc : d.code = 0
  · have hsh := code_shape hc
    have hf : d.flatV = d.flat := by rw [HV.out, if_pos hc]
    rw [hc]
    have hheld : Held (w.heap.size + 1) (w.heap.size + 1) [] w2 := .inl ⟨by omega, .slice none 0 0, HBK.out, World.ownsRow_nil _ _ _ _, by simp [Value.ownBlock]⟩
    have HF := Lib.hid (flatly_any d kv w.heap.size 0 (w.heap.size + 1) (w.heap.size + 1) [] w2 H62.out ((HK.out.below HB2.out (Nat.le_refl _)).wide (Nat.le_refl _) (by omega)) (by omega) hheld (by simp; omega) hsh.1)
    have HC := Lib.hid hc
    clear hc hsh hheld
    cases hfl : d.flat with
    | none =>
      have HD : Hid (d.flatS = ⟨#[]⟩ ∧ d.flatOk = false) := Lib.hid (by unfold Doc.flatS Doc.flatOk; rw [hf, hfl]; exact ⟨rfl, rfl⟩)
      have HFL := Lib.hid hfl
      clear hfl hf
      go_wp2_with fail
      refine HF.out.mono ?_
      intro e w3 h3
      rw [flatOut_none HFL.out] at h3
      obtain ⟨rfl, hb3⟩ := h3
      have HB3 := Lib.hid (HB2.out.trans (hb3.mono (by omega)))
      clear hb3
      go_wp2_with fail
      go_ret2
      exact ⟨by first | (rw [HD.out.1, HD.out.2]; done) | (rw [HD.out.1, HD.out.2]; rfl), HB3.out⟩
    | some l =>
      have HD : Hid (d.flatS = ⟨l.toArray⟩ ∧ d.flatOk = true) := Lib.hid (by unfold Doc.flatS Doc.flatOk; rw [hf, hfl]; exact ⟨rfl, rfl⟩)
      have HFL := Lib.hid hfl
      clear hfl hf
      go_wp2_with fail
      refine HF.out.mono ?_
      intro e w3 h3
      rw [flatOut_some HFL.out] at h3
      obtain ⟨rfl, hh3, hb3⟩ := h3
      rw [List.nil_append] at hh3
      have hz3 := hb3.size
      have HS := Lib.hid (Tryd.Builder_String_any (w.heap.size + 1) (w.heap.size + 1) l w3 hh3 (by omega))
      have HB3 := Lib.hid (HB2.out.trans (hb3.mono (by omega)))
      clear hb3 hh3
      go_wp2_with fail
      refine HS.out.mono ?_
      rintro e w4 ⟨rfl, hb4⟩
      have HB4 := Lib.hid (HB3.out.trans (hb4.mono (by omega)))
      clear hb4
      go_wp2_with fail
      go_ret2
      exact ⟨by first | (rw [HD.out.1, HD.out.2]; done) | (rw [HD.out.1, HD.out.2]; rfl), HB4.out⟩
  · have HD : Hid (d.flatS = ⟨#[]⟩ ∧ d.flatOk = false) := Lib.hid (by unfold Doc.flatS Doc.flatOk; rw [HV.out, if_neg hc]; exact ⟨rfl, rfl⟩)
    have hne : (d.code != 0) = true := by rw [bne_iff_ne]; exact hc
    clear hc
    go_wp2_with fail
    go_ret2
    exact ⟨by first | (rw [HD.out.1, HD.out.2]; done) | (rw [HD.out.1, HD.out.2]; rfl), HB2.out⟩
end Go.Proofs.YtaojlnibkajfbaaDoor
