/- platenref15: alone, shape, Check. -/
import Derived.Test.YtaojlnibkajfbaaDoorRefAloneA
import Derived.Test.YtaojlnibkajfbaaDoorRefAloneB
import Derived.Test.YtaojlnibkajfbaaDoorRefAloneC
import Derived.Test.YtaojlnibkajfbaaDoorRefAloneD
import Derived.Test.YtaojlnibkajfbaaDoorRefDocLook
namespace Go.Proofs.YtaojlnibkajfbaaDoor
open Go.RowKit
set_option maxRecDepth 100000
set_option linter.unusedVariables false
set_option linter.unusedSimpArgs false

theorem alone_any (d : Doc) (a : Option Addr) (cap : Nat) (w : World) (hb : d.bulk ≤ 4194304) :
    Calls Tryd.prog 48 #[docV d (.slice a d.kids.length cap)] w fun e w' => e = .returned (.bool d.formed) ∧ Below w.heap.size w w' := by
  have hs : d.text.size ≤ 4194304 := by rw [Doc.bulk_eq] at hb; omega
  have hn : d.kids.length ≤ 4194304 := by have := d.kids_len; omega
  have hf : d.formed = formedF d.kind d.text d.kids.length d.brk d.id d.width := by cases d; rfl
  rw [hf]
  unfold docV
  generalize d.kids.length = n at *
  generalize d.text = t at *
  generalize d.brk = b at *
  generalize d.id = i at *
  generalize d.width = y at *
  obtain ⟨k, hk⟩ : ∃ k, k = d.kind := ⟨_, rfl⟩
  rw [← hk]
  clear hf hk hb
  by_cases h : k ≤ 0 ∨ 17 ≤ k
  · exact alone_else k h t a n cap b i y w hs hn
  · have hc : k = 1 ∨ k = 2 ∨ k = 3 ∨ k = 4 ∨ k = 5 ∨ k = 6 ∨ k = 7 ∨ k = 8 ∨ k = 9 ∨ k = 10 ∨ k = 11 ∨ k = 12 ∨ k = 13 ∨ k = 14 ∨ k = 15 ∨ k = 16 := by omega
    rcases hc with rfl | rfl | rfl | rfl | rfl | rfl | rfl | rfl | rfl | rfl | rfl | rfl | rfl | rfl | rfl | rfl
    · exact alone_1 t a n cap b i y w hs hn
    · exact alone_2 t a n cap b i y w hs hn
    · exact alone_3 t a n cap b i y w hs hn
    · exact alone_4 t a n cap b i y w hs hn
    · exact alone_5 t a n cap b i y w hs hn
    · exact alone_6 t a n cap b i y w hs hn
    · exact alone_7 t a n cap b i y w hs hn
    · exact alone_8 t a n cap b i y w hs hn
    · exact alone_9 t a n cap b i y w hs hn
    · exact alone_10 t a n cap b i y w hs hn
    · exact alone_11 t a n cap b i y w hs hn
    · exact alone_12 t a n cap b i y w hs hn
    · exact alone_13 t a n cap b i y w hs hn
    · exact alone_14 t a n cap b i y w hs hn
    · exact alone_15 t a n cap b i y w hs hn
    · exact alone_16 t a n cap b i y w hs hn

theorem shapeL_all {ks : List Doc} (h : ∀ j (hj : j < ks.length), (ks[j]).shape = true) : shapeL ks = true := by
  induction ks with
  | nil => rfl
  | cons d ds ih =>
    have h0 := h 0 (by simp)
    have ih' := ih (fun j hj => h (j + 1) (by simpa using hj))
    simp only [List.getElem_cons_zero] at h0
    simp [shapeL, h0, ih']
theorem shapeL_one {ks : List Doc} {j : Nat} (hj : j < ks.length) (h : (ks[j]).shape = false) : shapeL ks = false := by
  cases hs : shapeL ks with
  | false => rfl
  | true => rw [shapeL_mem hs _ (List.getElem_mem hj)] at h; cases h
def ShaIn (d : Doc) : Prop := ∀ (kv : Value) (w : World), KV w 0 w.heap.size d kv → d.bulk ≤ 4194304 →
    Calls Tryd.prog 42 #[docV d kv] w fun e w' => e = .returned (.bool d.shape) ∧ Below w.heap.size w w'
set_option maxHeartbeats 4000000 in
theorem shape_any (d : Doc) : ShaIn d := by
  refine Doc.ind (P := ShaIn) (fun d ih => ?_) d
  intro kv w hk hb
  obtain ⟨a, cap, rfl⟩ := hk.slice
  have hkid := fun j hj => hk.kid (j := j) hj
  have hmem : ∀ j (hj : j < d.kids.length), ShaIn d.kids[j] ∧ (d.kids[j]).bulk ≤ 4194304 := fun j hj => ⟨ih _ (List.getElem_mem hj), by have := Doc.kid_bulk (List.getElem_mem hj); omega⟩
  have hlen : d.kids.length < 4194304 := by have := d.kids_len; omega
  obtain ⟨W0, hW0⟩ : ∃ W0, W0 = w.alloc (.cells (docCells d (.slice a d.kids.length cap)).toArray 24) := ⟨_, rfl⟩
  have hst : Blk W0 w.heap.size (docCells d (.slice a d.kids.length cap)) 24 ∧ Below w.heap.size w W0 := by
    rw [hW0]
    exact ⟨Blk.new _ _ _, (Below.refl _ w).alloc (Nat.le_refl _) _⟩
  have HAL := Lib.hid (alone_any d a cap W0 hb)
  have hse := d.shape_eq
  obtain ⟨len, hlen2⟩ : ∃ z, z = d.kids.length := ⟨_, rfl⟩
  rw [← hlen2] at hlen hst hW0 HAL
  have HSH := Lib.hid hse
  have HKID := Lib.hid hkid
  have HMEM := Lib.hid hmem
  have HLEN := Lib.hid hlen2
  have HST := Lib.hid hst
  have HW0 := Lib.hid hW0
  clear hk hkid hmem ih hst hW0 hse
  rw [← hlen2]
  clear hlen2
  obtain ⟨sh, hsh⟩ : ∃ sh, sh = d.shape := ⟨_, rfl⟩
  rw [← hsh] at HSH ⊢
  clear hsh
  cases hfo : d.formed with
  | false =>
    rw [hfo] at HAL HSH
    have hs0 : sh = false := by rw [HSH.out]; rfl
    subst hs0
    clear hfo
    unfold docV at HAL
    unfold docV
    go_enter Tryd.func42, Tryd.ntmps42
    go_wp2_with fail
    refine (Calls.at_world (by rw [HW0.out]; rfl) HAL.out).mono ?_
    rintro e w1 ⟨rfl, hb1⟩
    have HB1 := Lib.hid (HST.out.2.call (show Below W0.heap.size W0 w1 from hb1))
    clear hb1
    go_wp2_with fail
    go_ret
    exact ⟨rfl, HB1.out⟩
  | true =>
    rw [hfo] at HAL HSH
    have hs0 : sh = shapeL d.kids := by rw [HSH.out]; simp
    have HS0 := Lib.hid hs0
    clear hfo hs0 HSH
    unfold docV at HAL
    unfold docV
    go_enter Tryd.func42, Tryd.ntmps42
    go_wp2_with fail
    refine (Calls.at_world (by rw [HW0.out]; rfl) HAL.out).mono ?_
    rintro e w1 ⟨rfl, hb1⟩
    have hb1' : Below W0.heap.size W0 w1 := hb1
    have HB1 := Lib.hid (HST.out.2.call hb1')
    have HX1 := Lib.hid (HST.out.1.below hb1')
    clear hb1 hb1' HAL
    go_wp2_with fail
    go_loopw [3] (fun i wr => ∃ j : Nat, j ≤ len ∧ i = .int .i64 (j : Int) ∧ (∀ x (hx : x < d.kids.length), x < j → (d.kids[x]).shape = true) ∧ Blk wr w.heap.size (docCells d (.slice a len cap)) 24 ∧ Below w.heap.size w wr) (fun i _ => len - (intOf i).toNat)
    case atStart => exact ⟨0, Nat.zero_le _, rfl, fun x _ h => absurd h (Nat.not_lt_zero x), HX1.out, HB1.out⟩
    case round =>
      obtain ⟨j, hj, rfl, hall, hbk, hbw⟩ := hrel
      have c2 := hbk.cell 2
      simp only [docCells, List.getElem?_cons_zero, List.getElem?_cons_succ] at c2
      have HALL := Lib.hid hall
      have HB := Lib.hid hbk
      have HBW := Lib.hid hbw
      by_cases hlt : j < len
      · have hjm : (j : Int) < (len : Int) := by omega
        have hj2 : j < d.kids.length := by rw [← HLEN.out]; exact hlt
        obtain ⟨g, off, rfl, _, hg, kv2, h6, hk2⟩ := HKID.out j hj2
        have h6' := h6.of (hbw.block _ hg)
        have g0 := h6'.kind
        have g1 := h6'.text
        have g2 := h6'.kids
        have g3 := h6'.brk
        have g4 := h6'.id
        have g5 := h6'.width
        have hkw : KV wr 0 wr.heap.size (d.kids[j]'hj2) kv2 := (hk2.below hbw (Nat.le_refl _)).wide (Nat.le_refl _) hbw.size
        have HC := Lib.hid ((HMEM.out j hj2).1 kv2 wr hkw (HMEM.out j hj2).2)
        have HONE := Lib.hid (fun h => shapeL_one (ks := d.kids) hj2 h)
        obtain ⟨K, hK⟩ : ∃ K, K = d.kids[j]'hj2 := ⟨_, rfl⟩
        rw [← hK] at g0 g1 g3 g4 g5 HC HONE
        have HKK := Lib.hid hK
        clear h6 h6' hk2 hbk hbw hkw hall hK
        obtain ⟨ks, hks⟩ : ∃ ks, ks = K.shape := ⟨_, rfl⟩
        rw [← hks] at HC HONE
        have HKS := Lib.hid hks
        clear hks
        go_wp2_with fail
        refine HC.out.mono ?_
        rintro e w2 ⟨rfl, hb2⟩
        have HB2 := Lib.hid (HBW.out.call hb2)
        have HBK2 := Lib.hid (HB.out.below hb2)
        clear hb2 c2 g0 g1 g2 g3 g4 g5
        cases ks with
        | true =>
          go_wp2_with fail
          go_roundw
          case rel =>
            refine ⟨j + 1, by omega, by go_num, fun x hx hxj => ?_, HBK2.out, HB2.out⟩
            rcases Nat.lt_or_ge x j with h | h
            · exact HALL.out x hx h
            · obtain rfl : x = j := by omega
              rw [← HKK.out]
              exact HKS.out.symm
          case measure => simp [intOf]; omega
        | false =>
          have hs0 : sh = false := by rw [HS0.out]; exact HONE.out rfl
          subst hs0
          go_wp2_with fail
          go_ret
          exact ⟨rfl, HB2.out⟩
      · have hjm : (len : Int) ≤ (j : Int) := by omega
        have hs0 : sh = true := by rw [HS0.out]; exact shapeL_all (fun x hx => hall x hx (by have := HLEN.out; omega))
        subst hs0
        clear hall hbk hbw
        go_wp2_with fail
        go_ret
        exact ⟨rfl, HBW.out⟩

set_option maxHeartbeats 4000000 in
theorem refCheck_any (d : Doc) (kv : Value) (w : World) (hk : KV w 0 w.heap.size d kv) (hb : d.bulk ≤ 4194304) :
    Calls Tryd.prog 23 #[docV d kv] w fun e w' => e = .returned (.int .i64 d.code) ∧ Below w.heap.size w w' := by
  obtain ⟨a, cap, rfl⟩ := hk.slice
  have hnb := d.nodes_bulk
  obtain ⟨len, hlen⟩ : ∃ len, len = d.kids.length := ⟨_, rfl⟩
  rw [← hlen] at hk ⊢
  clear hlen
  obtain ⟨W0, hW0⟩ : ∃ W0, W0 = w.alloc (.cells (docCells d (.slice a len cap)).toArray 24) := ⟨_, rfl⟩
  have hst : Blk W0 w.heap.size (docCells d (.slice a len cap)) 24 ∧ Below w.heap.size w W0 := by
    rw [hW0]
    exact ⟨Blk.new _ _ _, (Below.refl _ w).alloc (Nat.le_refl _) _⟩
  have hk0 := (hk.below hst.2 (Nat.le_refl _)).wide (Nat.le_refl _) hst.2.size
  have HL := Lib.hid (large_any d _ 0 W0 hk0 (by omega))
  have HK0 := Lib.hid hk0
  have HST := Lib.hid hst
  have HW0 := Lib.hid hW0
  obtain ⟨N, hN⟩ : ∃ N, N = 0 + d.nodes := ⟨_, rfl⟩
  rw [← hN] at HL
  have hNb : (N : Int) ≤ 8388608 := by omega
  have HCD : Hid (d.code = if 64000 < d.depth then 1501 else if d.shape = true then 0 else 1500) := Lib.hid rfl
  clear hk0 hst hW0 hk hN hnb
  unfold docV at HL
  unfold docV
  go_enter Tryd.func23, Tryd.ntmps23
  go_wp2_with fail
  refine (Calls.at_world (by rw [HW0.out]; rfl) HL.out).mono ?_
  rintro e w1 ⟨rfl, hb1⟩
  have hb1' : Below W0.heap.size W0 w1 := hb1
  have HB1 := Lib.hid (HST.out.2.call hb1')
  have HX1 := Lib.hid (HST.out.1.below hb1')
  have HK1 := Lib.hid ((HK0.out.below hb1' (Nat.le_refl _)).wide (Nat.le_refl _) hb1'.size)
  have HD := Lib.hid (deepIn_any d _ 64000 w1 HK1.out (by omega) hb)
  have c0 := HX1.out.cell 0; have c1 := HX1.out.cell 1; have c2 := HX1.out.cell 2; have c3 := HX1.out.cell 3; have c4 := HX1.out.cell 4; have c5 := HX1.out.cell 5
  simp only [docCells, List.getElem?_cons_zero, List.getElem?_cons_succ] at c0 c1 c2 c3 c4 c5
  unfold docV at HD
  clear hb1 hb1' HL
  go_wp2_with fail
  refine HD.out.mono ?_
  rintro e w2 ⟨rfl, hb2⟩
  have HB2 := Lib.hid (HB1.out.call hb2)
  have HX2 := Lib.hid (HX1.out.below hb2)
  have HK2 := Lib.hid ((HK1.out.below hb2 (Nat.le_refl _)).wide (Nat.le_refl _) hb2.size)
  clear hb2 HD c0 c1 c2 c3 c4 c5
  by_cases hdp : 64000 < d.depth
  · rw [decide_eq_true hdp]
    have hcd : d.code = 1501 := by rw [HCD.out, if_pos hdp]
    have HCDX := Lib.hid hcd
    clear hdp hcd HCD
    go_wp2_with fail
    go_ret
    exact ⟨by rw [HCDX.out]; rfl, HB2.out⟩
  · rw [decide_eq_false hdp]
    have HS := Lib.hid (shape_any d _ w2 HK2.out hb)
    unfold docV at HS
    have c0 := HX2.out.cell 0; have c1 := HX2.out.cell 1; have c2 := HX2.out.cell 2; have c3 := HX2.out.cell 3; have c4 := HX2.out.cell 4; have c5 := HX2.out.cell 5
    simp only [docCells, List.getElem?_cons_zero, List.getElem?_cons_succ] at c0 c1 c2 c3 c4 c5
    have HDP := Lib.hid hdp
    clear hdp
    go_wp2_with fail
    refine HS.out.mono ?_
    rintro e w3 ⟨rfl, hb3⟩
    have HB3 := Lib.hid (HB2.out.call hb3)
    clear hb3 HS c0 c1 c2 c3 c4 c5
    cases hsh : d.shape with
    | true =>
      have hcd : d.code = 0 := by rw [HCD.out, if_neg HDP.out, if_pos hsh]
      have HCDX := Lib.hid hcd
      clear hcd HCD hsh
      go_wp2_with fail
      go_ret
      exact ⟨by rw [HCDX.out]; rfl, HB3.out⟩
    | false =>
      have hcd : d.code = 1500 := by rw [HCD.out, if_neg HDP.out, if_neg (by rw [hsh]; simp)]
      have HCDX := Lib.hid hcd
      clear hcd HCD hsh
      go_wp2_with fail
      go_ret
      exact ⟨by rw [HCDX.out]; rfl, HB3.out⟩
end Go.Proofs.YtaojlnibkajfbaaDoor
