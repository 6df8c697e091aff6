/- WHAT IS PROVED: SpreadDocs holds for every document of at most 1048576 parts and letters: Spread gives what the reference gives, two answers held at a time; the document stays. Conditions: the argument's bulk is at most 1048576; the listed tables of the library's decoder read as its text lays them (the card ties them). -/
import Derived.Test.YtaojlnibkajfbaaDoorDocRow
import Derived.Test.YtaojlnibkajfbaaDoorRefAloneA
import Derived.Test.YtaojlnibkajfbaaDoorRefAloneB
import Derived.Test.YtaojlnibkajfbaaDoorRefAloneC
import Derived.Test.YtaojlnibkajfbaaDoorRefAloneD
import Derived.Test.YtaojlnibkajfbaaDoorRefSame
import Derived.Test.YtaojlnibkajfbaaDoorRefSpr
import Derived.Test.YtaojlnibkajfbaaDoorDocMem
import Derived.Test.YtaojlnibkajfbaaDoorSpreadWays
import Derived.Test.YtaojlnibkajfbaaDoorDocShallow
import Derived.Test.YtaojlnibkajfbaaDoorDocOpen
import Derived.Test.YtaojlnibkajfbaaDoorDocCard
import Derived.Test.YtaojlnibkajfbaaDoorArgs
namespace Go.Proofs.YtaojlnibkajfbaaDoor
section
open Go.RowKit
set_option maxRecDepth 100000
set_option linter.unusedVariables false
set_option linter.unusedSimpArgs false

theorem nodesL_take_succ {ks : List Doc} {j : Nat} (h : j < ks.length) : nodesL (ks.take (j + 1)) = nodesL (ks.take j) + (ks[j]).nodes := by
  rw [List.take_succ_eq_append_getElem h, nodesL_app]
  simp [nodesL]
theorem nodesL_take_le (ks : List Doc) (j : Nat) : nodesL (ks.take j) ≤ nodesL ks := by
  have := nodesL_app (ks.take j) (ks.drop j)
  rw [List.take_append_drop] at this
  omega
def LarIn (d : Doc) : Prop := ∀ (kv : Value) (m : Nat) (w : World), KV w 0 w.heap.size d kv → m + d.nodes ≤ 8388608 →
    Calls Tryd.prog 40 #[docV d kv, .int .i64 (m : Int)] w fun e w' => e = .returned (.int .i64 ((m + d.nodes : Nat) : Int)) ∧ Below w.heap.size w w'
set_option maxHeartbeats 4000000 in
theorem large_any (d : Doc) : LarIn d := by
  refine Doc.ind (P := LarIn) (fun d ih => ?_) d
  intro kv m w hk hm
  obtain ⟨a, cap, rfl⟩ := hk.slice
  have hkid := fun j hj => hk.kid (j := j) hj
  have hmem : ∀ j (hj : j < d.kids.length), LarIn d.kids[j] := fun j hj => ih _ (List.getElem_mem hj)
  have hnd := d.nodes_eq
  have hln := nodesL_len d.kids
  have hlen : d.kids.length < 8388608 := by omega
  have hbk := Blk.new w (docCells d (.slice a d.kids.length cap)) 24
  obtain ⟨len, hlen2⟩ : ∃ z, z = d.kids.length := ⟨_, rfl⟩
  simp only [← hlen2] at hlen hbk
  have HKID := Lib.hid hkid
  have HMEM := Lib.hid hmem
  have HBK := Lib.hid hbk
  have HLEN := Lib.hid hlen2
  have HND := Lib.hid hnd
  have hm8 : m + 1 ≤ 8388608 := by omega
  clear hk hkid hmem hbk ih
  rw [← hlen2]
  clear hlen2 hnd hln
  obtain ⟨N, hN⟩ : ∃ N, N = m + d.nodes := ⟨_, rfl⟩
  rw [← hN] at hm ⊢
  have HN := Lib.hid hN
  clear hN
  unfold docV
  go_enter Tryd.func40, Tryd.ntmps40
  go_wp2_with fail
  go_loopw [1, 5] (fun v i wr => ∃ j s : Nat, j ≤ len ∧ i = .int .i64 (j : Int) ∧ v = .int .i64 (s : Int) ∧ s = m + 1 + nodesL (d.kids.take j) ∧ s ≤ 8388608 ∧ Blk wr w.heap.size (docCells d (.slice a len cap)) 24 ∧ Below w.heap.size w wr) (fun _ i _ => len - (intOf i).toNat)
  case atStart =>
    exact ⟨0, m + 1, Nat.zero_le _, rfl, by go_num, by simp [nodesL], by omega, HBK.out, (Below.refl _ w).alloc (Nat.le_refl _) _⟩
  case round =>
    obtain ⟨j, s, hj, rfl, rfl, hs, hs8, hbk, hbw⟩ := hrel
    have c2 := hbk.cell 2
    simp only [docCells, List.getElem?_cons_zero, List.getElem?_cons_succ] at c2
    have HS := Lib.hid hs
    have HB := Lib.hid hbk
    have HBW := Lib.hid hbw
    have hs9 : (s : Int) ≤ 8388608 := by omega
    clear hs
    by_cases hlt : j < len
    · have hjm : (j : Int) < (len : Int) := by omega
      have hj2 : j < d.kids.length := by rw [← HLEN.out]; exact hlt
      obtain ⟨g, off, rfl, _, hg, kv2, h6, hk2⟩ := HKID.out j hj2
      have hst := nodesL_take_succ hj2
      have hle := nodesL_take_le d.kids (j + 1)
      have hsum : s + (d.kids[j]'hj2).nodes = m + 1 + nodesL (d.kids.take (j + 1)) := by have := HS.out; omega
      have hsum8 : s + (d.kids[j]'hj2).nodes ≤ 8388608 := by have := HND.out; have := HN.out; omega
      have h6' := h6.of (hbw.block _ hg)
      have g0 := h6'.kind
      have g1 := h6'.text
      have g2 := h6'.kids
      have g3 := h6'.brk
      have g4 := h6'.id
      have g5 := h6'.width
      have hkw : KV wr 0 wr.heap.size (d.kids[j]'hj2) kv2 := (hk2.below hbw (Nat.le_refl _)).wide (Nat.le_refl _) hbw.size
      have HC := Lib.hid (HMEM.out j hj2 kv2 s wr hkw hsum8)
      generalize d.kids[j]'hj2 = K at *
      have HSUM := Lib.hid hsum
      clear h6 h6' hk2 hbk hbw hkw hst hle hsum
      obtain ⟨s2, hs2⟩ : ∃ s2, s2 = s + K.nodes := ⟨_, rfl⟩
      rw [← hs2] at HC HSUM hsum8
      clear hs2
      go_wp2_with fail
      refine HC.out.mono ?_
      rintro e w2 ⟨rfl, hb2⟩
      have HB2 := Lib.hid (HBW.out.call hb2)
      have HBK2 := Lib.hid (HB.out.below hb2)
      clear hb2 c2 g0 g1 g2 g3 g4 g5
      go_wp2_with fail
      go_roundw
      case rel => exact ⟨j + 1, s2, by omega, by go_num, rfl, HSUM.out, hsum8, HBK2.out, HB2.out⟩
      case measure => simp [intOf]; omega
    · have hjm : (len : Int) ≤ (j : Int) := by omega
      have hfin : s = N := by
        have h1 := HS.out
        rw [List.take_of_length_le (by have := HLEN.out; omega)] at h1
        have h2 := HND.out
        have h3 := HN.out
        omega
      have HF := Lib.hid hfin
      clear hfin hbk hbw
      go_wp2_with fail
      go_ret
      exact ⟨ret_int (by rw [HF.out]), HBW.out⟩

theorem depthL_gt {ks : List Doc} {n : Nat} (h : ∀ j (hj : j < ks.length), (ks[j]).depth ≤ n) : depthL ks ≤ n := by
  induction ks with
  | nil => simp [depthL]
  | cons d ds ih =>
    have h0 := h 0 (by simp)
    have ih' := ih (fun j hj => h (j + 1) (by simpa using hj))
    simp only [List.getElem_cons_zero] at h0
    simp only [depthL]
    omega
def DeeIn (d : Doc) : Prop := ∀ (kv : Value) (left : Nat) (w : World), KV w 0 w.heap.size d kv → left ≤ 65536 → d.bulk ≤ 4194304 →
    Calls Tryd.prog 41 #[docV d kv, .int .i64 left] w fun e w' => e = .returned (.bool (decide (left < d.depth))) ∧ Below w.heap.size w w'

set_option maxHeartbeats 4000000 in
theorem deepIn_any (d : Doc) : DeeIn d := by
  refine Doc.ind (P := DeeIn) (fun d ih => ?_) d
  intro kv left w hk hl hb
  cases left with
  | zero =>
    have h0 : decide (0 < d.depth) = true := by simp [Doc.depth_eq]
    have H0 := Lib.hid h0
    clear h0
    unfold docV
    go_enter Tryd.func41, Tryd.ntmps41
    go_wp2_with fail
    go_ret
    exact ⟨by rw [H0.out]; rfl, (Below.refl _ w).alloc (Nat.le_refl _) _⟩
  | succ n =>
    obtain ⟨a, cap, rfl⟩ := hk.slice
    have hcap := hk.cap
    have hkid := fun j hj => hk.kid (j := j) hj
    have hdep : ∀ j (hj : j < d.kids.length), (d.kids[j]).depth ≤ depthL d.kids := fun j hj => depthL_mem (List.getElem_mem hj)
    have hmem : ∀ j (hj : j < d.kids.length), DeeIn d.kids[j] ∧ (d.kids[j]).bulk ≤ 4194304 := fun j hj => ⟨ih _ (List.getElem_mem hj), by have := Doc.kid_bulk (List.getElem_mem hj); omega⟩
    have hdl := @depthL_gt d.kids n
    have hlen : d.kids.length < 4194304 := by have := d.kids_len; omega
    have hbk := Blk.new w (docCells d (.slice a d.kids.length cap)) 24
    obtain ⟨len, hlen2⟩ : ∃ z, z = d.kids.length := ⟨_, rfl⟩
    simp only [← hlen2] at hlen hcap hbk
    have e1 : ((n : Int) + 1 == 0) = false := by simp; omega
    have hw1 : IntKind.i64.wrap ((n : Int) + 1 - 1) = (n : Int) := by rw [show (n : Int) + 1 - 1 = n by omega]; exact IntWalk.i64_in _ (by omega)
    have HDE := Lib.hid (d.depth_eq)
    have HKID := Lib.hid hkid
    have HDEP := Lib.hid hdep
    have HMEM := Lib.hid hmem
    have HDL := Lib.hid hdl
    have HBK := Lib.hid hbk
    have HLEN := Lib.hid hlen2
    clear hk hkid hdep hmem hdl hbk ih
    rw [← hlen2]
    clear hlen2
    unfold docV
    go_enter Tryd.func41, Tryd.ntmps41
    go_wp2_with fail
    go_loopw [5] (fun i wr => ∃ j : Nat, j ≤ len ∧ i = .int .i64 (j : Int) ∧ (∀ x (hx : x < d.kids.length), x < j → (d.kids[x]).depth ≤ n) ∧ Blk wr w.heap.size (docCells d (.slice a len cap)) 24 ∧ Below w.heap.size w wr) (fun i _ => len - (intOf i).toNat)
    case atStart =>
      exact ⟨0, Nat.zero_le _, rfl, fun x _ h => absurd h (Nat.not_lt_zero x), HBK.out, (Below.refl _ w).alloc (Nat.le_refl _) _⟩
    case round =>
      obtain ⟨j, hj, rfl, hall, hbk, hbw⟩ := hrel
      have c2 := hbk.cell 2
      simp only [docCells, List.getElem?_cons_zero, List.getElem?_cons_succ] at c2
      have HALL := Lib.hid hall
      have HB := Lib.hid hbk
      have HBW := Lib.hid hbw
      by_cases hlt : j < len
      · have hjm : (j : Int) < (len : Int) := by omega
        have hj2 : j < d.kids.length := by rw [← HLEN.out]; exact hlt
        obtain ⟨g, off, rfl, _, hg, kv2, h6, hk2⟩ := HKID.out j hj2
        obtain ⟨K, hK⟩ : ∃ K, K = d.kids[j]'hj2 := ⟨_, rfl⟩
        have h6' := h6.of (hbw.block _ hg)
        rw [← hK] at h6' hk2
        have g0 := h6'.kind
        have g1 := h6'.text
        have g2 := h6'.kids
        have g3 := h6'.brk
        have g4 := h6'.id
        have g5 := h6'.width
        have hkw : KV wr 0 wr.heap.size K kv2 := (hk2.below hbw (Nat.le_refl _)).wide (Nat.le_refl _) hbw.size
        have HC := Lib.hid ((HMEM.out j hj2).1 kv2 n wr (hK ▸ hkw) (by omega) (HMEM.out j hj2).2)
        rw [← hK] at HC
        have HKK := Lib.hid hK
        clear h6 h6' hk2 hK hall hbk hbw hkw
        go_wp2_with fail
        refine HC.out.mono ?_
        rintro e w2 ⟨rfl, hb2⟩
        have HB2 := Lib.hid (HBW.out.call hb2)
        have HBK2 := Lib.hid (HB.out.below hb2)
        clear hb2 c2 g0 g1 g2 g3 g4 g5
        by_cases hkd : K.depth ≤ n
        · rw [decide_eq_false (show ¬ n < K.depth by omega)]
          have HKD := Lib.hid hkd
          have hw2 : IntKind.i64.wrap ((j : Int) + 1) = (j : Int) + 1 := IntWalk.i64_in _ (by omega)
          clear hkd
          go_wp2_with fail
          go_roundw
          case rel =>
            repeat apply Exists.intro
            refine ⟨?_, rfl⟩
            refine ⟨j + 1, by omega, by go_num, fun x hx hxj => ?_, HBK2.out, HB2.out⟩
            rcases Nat.lt_or_ge x j with h | h
            · exact HALL.out x hx h
            · obtain rfl : x = j := by omega
              rw [← HKK.out]
              exact HKD.out
          case measure => simp [intOf]; omega
        · rw [decide_eq_true (show n < K.depth by omega)]
          have HKD := Lib.hid hkd
          clear hkd
          go_wp2_with fail
          go_ret
          have hd : decide (n + 1 < d.depth) = true := decide_eq_true (by
            have h1 := HDEP.out j hj2
            rw [← HKK.out] at h1
            have h2 := HDE.out
            have h3 := HKD.out
            omega)
          exact ⟨by rw [hd]; rfl, HB2.out⟩
      · have hjm : j = len := by omega
        subst hjm
        go_wp2_with fail
        go_ret
        have hd : decide (n + 1 < d.depth) = false := decide_eq_false (by
          have h1 := HDL.out (fun x hx => HALL.out x hx (by have := HLEN.out; omega))
          have h2 := HDE.out
          omega)
        exact ⟨by rw [hd]; rfl, HBW.out⟩
end

section
open Go.RowKit
set_option maxRecDepth 100000
set_option linter.unusedVariables false
set_option linter.unusedSimpArgs false

theorem alone_any (d : Doc) (a : Option Addr) (cap : Nat) (w : World) (hb : d.bulk ≤ 4194304) :
    Calls Tryd.prog 48 #[docV d (.slice a d.kids.length cap)] w fun e w' => e = .returned (.bool d.formed) ∧ Below w.heap.size w w' := by
  have hs : d.text.size ≤ 4194304 := by rw [Doc.bulk_eq] at hb; omega
  have hn : d.kids.length ≤ 4194304 := by have := d.kids_len; omega
  have hf : d.formed = formedF d.kind d.text d.kids.length d.brk d.id d.width := by cases d; rfl
  rw [hf]
  unfold docV
  generalize d.kids.length = n at *
  generalize d.text = t at *
  generalize d.brk = b at *
  generalize d.id = i at *
  generalize d.width = y at *
  obtain ⟨k, hk⟩ : ∃ k, k = d.kind := ⟨_, rfl⟩
  rw [← hk]
  clear hf hk hb
  by_cases h : k ≤ 0 ∨ 17 ≤ k
  · exact alone_else k h t a n cap b i y w hs hn
  · have hc : k = 1 ∨ k = 2 ∨ k = 3 ∨ k = 4 ∨ k = 5 ∨ k = 6 ∨ k = 7 ∨ k = 8 ∨ k = 9 ∨ k = 10 ∨ k = 11 ∨ k = 12 ∨ k = 13 ∨ k = 14 ∨ k = 15 ∨ k = 16 := by omega
    rcases hc with rfl | rfl | rfl | rfl | rfl | rfl | rfl | rfl | rfl | rfl | rfl | rfl | rfl | rfl | rfl | rfl
    · exact alone_1 t a n cap b i y w hs hn
    · exact alone_2 t a n cap b i y w hs hn
    · exact alone_3 t a n cap b i y w hs hn
    · exact alone_4 t a n cap b i y w hs hn
    · exact alone_5 t a n cap b i y w hs hn
    · exact alone_6 t a n cap b i y w hs hn
    · exact alone_7 t a n cap b i y w hs hn
    · exact alone_8 t a n cap b i y w hs hn
    · exact alone_9 t a n cap b i y w hs hn
    · exact alone_10 t a n cap b i y w hs hn
    · exact alone_11 t a n cap b i y w hs hn
    · exact alone_12 t a n cap b i y w hs hn
    · exact alone_13 t a n cap b i y w hs hn
    · exact alone_14 t a n cap b i y w hs hn
    · exact alone_15 t a n cap b i y w hs hn
    · exact alone_16 t a n cap b i y w hs hn

theorem shapeL_all {ks : List Doc} (h : ∀ j (hj : j < ks.length), (ks[j]).shape = true) : shapeL ks = true := by
  induction ks with
  | nil => rfl
  | cons d ds ih =>
    have h0 := h 0 (by simp)
    have ih' := ih (fun j hj => h (j + 1) (by simpa using hj))
    simp only [List.getElem_cons_zero] at h0
    simp [shapeL, h0, ih']
theorem shapeL_one {ks : List Doc} {j : Nat} (hj : j < ks.length) (h : (ks[j]).shape = false) : shapeL ks = false := by
  cases hs : shapeL ks with
  | false => rfl
  | true => rw [shapeL_mem hs _ (List.getElem_mem hj)] at h; cases h
def ShaIn (d : Doc) : Prop := ∀ (kv : Value) (w : World), KV w 0 w.heap.size d kv → d.bulk ≤ 4194304 →
    Calls Tryd.prog 42 #[docV d kv] w fun e w' => e = .returned (.bool d.shape) ∧ Below w.heap.size w w'
set_option maxHeartbeats 4000000 in
theorem shape_any (d : Doc) : ShaIn d := by
  refine Doc.ind (P := ShaIn) (fun d ih => ?_) d
  intro kv w hk hb
  obtain ⟨a, cap, rfl⟩ := hk.slice
  have hkid := fun j hj => hk.kid (j := j) hj
  have hmem : ∀ j (hj : j < d.kids.length), ShaIn d.kids[j] ∧ (d.kids[j]).bulk ≤ 4194304 := fun j hj => ⟨ih _ (List.getElem_mem hj), by have := Doc.kid_bulk (List.getElem_mem hj); omega⟩
  have hlen : d.kids.length < 4194304 := by have := d.kids_len; omega
  obtain ⟨W0, hW0⟩ : ∃ W0, W0 = w.alloc (.cells (docCells d (.slice a d.kids.length cap)).toArray 24) := ⟨_, rfl⟩
  have hst : Blk W0 w.heap.size (docCells d (.slice a d.kids.length cap)) 24 ∧ Below w.heap.size w W0 := by
    rw [hW0]
    exact ⟨Blk.new _ _ _, (Below.refl _ w).alloc (Nat.le_refl _) _⟩
  have HAL := Lib.hid (alone_any d a cap W0 hb)
  have hse := d.shape_eq
  obtain ⟨len, hlen2⟩ : ∃ z, z = d.kids.length := ⟨_, rfl⟩
  rw [← hlen2] at hlen hst hW0 HAL
  have HSH := Lib.hid hse
  have HKID := Lib.hid hkid
  have HMEM := Lib.hid hmem
  have HLEN := Lib.hid hlen2
  have HST := Lib.hid hst
  have HW0 := Lib.hid hW0
  clear hk hkid hmem ih hst hW0 hse
  rw [← hlen2]
  clear hlen2
  obtain ⟨sh, hsh⟩ : ∃ sh, sh = d.shape := ⟨_, rfl⟩
  rw [← hsh] at HSH ⊢
  clear hsh
  cases hfo : d.formed with
  | false =>
    rw [hfo] at HAL HSH
    have hs0 : sh = false := by rw [HSH.out]; rfl
    subst hs0
    clear hfo
    unfold docV at HAL
    unfold docV
    go_enter Tryd.func42, Tryd.ntmps42
    go_wp2_with fail
    refine (Calls.at_world (by rw [HW0.out]; rfl) HAL.out).mono ?_
    rintro e w1 ⟨rfl, hb1⟩
    have HB1 := Lib.hid (HST.out.2.call (show Below W0.heap.size W0 w1 from hb1))
    clear hb1
    go_wp2_with fail
    go_ret
    exact ⟨rfl, HB1.out⟩
  | true =>
    rw [hfo] at HAL HSH
    have hs0 : sh = shapeL d.kids := by rw [HSH.out]; simp
    have HS0 := Lib.hid hs0
    clear hfo hs0 HSH
    unfold docV at HAL
    unfold docV
    go_enter Tryd.func42, Tryd.ntmps42
    go_wp2_with fail
    refine (Calls.at_world (by rw [HW0.out]; rfl) HAL.out).mono ?_
    rintro e w1 ⟨rfl, hb1⟩
    have hb1' : Below W0.heap.size W0 w1 := hb1
    have HB1 := Lib.hid (HST.out.2.call hb1')
    have HX1 := Lib.hid (HST.out.1.below hb1')
    clear hb1 hb1' HAL
    go_wp2_with fail
    go_loopw [3] (fun i wr => ∃ j : Nat, j ≤ len ∧ i = .int .i64 (j : Int) ∧ (∀ x (hx : x < d.kids.length), x < j → (d.kids[x]).shape = true) ∧ Blk wr w.heap.size (docCells d (.slice a len cap)) 24 ∧ Below w.heap.size w wr) (fun i _ => len - (intOf i).toNat)
    case atStart => exact ⟨0, Nat.zero_le _, rfl, fun x _ h => absurd h (Nat.not_lt_zero x), HX1.out, HB1.out⟩
    case round =>
      obtain ⟨j, hj, rfl, hall, hbk, hbw⟩ := hrel
      have c2 := hbk.cell 2
      simp only [docCells, List.getElem?_cons_zero, List.getElem?_cons_succ] at c2
      have HALL := Lib.hid hall
      have HB := Lib.hid hbk
      have HBW := Lib.hid hbw
      by_cases hlt : j < len
      · have hjm : (j : Int) < (len : Int) := by omega
        have hj2 : j < d.kids.length := by rw [← HLEN.out]; exact hlt
        obtain ⟨g, off, rfl, _, hg, kv2, h6, hk2⟩ := HKID.out j hj2
        have h6' := h6.of (hbw.block _ hg)
        have g0 := h6'.kind
        have g1 := h6'.text
        have g2 := h6'.kids
        have g3 := h6'.brk
        have g4 := h6'.id
        have g5 := h6'.width
        have hkw : KV wr 0 wr.heap.size (d.kids[j]'hj2) kv2 := (hk2.below hbw (Nat.le_refl _)).wide (Nat.le_refl _) hbw.size
        have HC := Lib.hid ((HMEM.out j hj2).1 kv2 wr hkw (HMEM.out j hj2).2)
        have HONE := Lib.hid (fun h => shapeL_one (ks := d.kids) hj2 h)
        obtain ⟨K, hK⟩ : ∃ K, K = d.kids[j]'hj2 := ⟨_, rfl⟩
        rw [← hK] at g0 g1 g3 g4 g5 HC HONE
        have HKK := Lib.hid hK
        clear h6 h6' hk2 hbk hbw hkw hall hK
        obtain ⟨ks, hks⟩ : ∃ ks, ks = K.shape := ⟨_, rfl⟩
        rw [← hks] at HC HONE
        have HKS := Lib.hid hks
        clear hks
        go_wp2_with fail
        refine HC.out.mono ?_
        rintro e w2 ⟨rfl, hb2⟩
        have HB2 := Lib.hid (HBW.out.call hb2)
        have HBK2 := Lib.hid (HB.out.below hb2)
        clear hb2 c2 g0 g1 g2 g3 g4 g5
        cases ks with
        | true =>
          go_wp2_with fail
          go_roundw
          case rel =>
            refine ⟨j + 1, by omega, by go_num, fun x hx hxj => ?_, HBK2.out, HB2.out⟩
            rcases Nat.lt_or_ge x j with h | h
            · exact HALL.out x hx h
            · obtain rfl : x = j := by omega
              rw [← HKK.out]
              exact HKS.out.symm
          case measure => simp [intOf]; omega
        | false =>
          have hs0 : sh = false := by rw [HS0.out]; exact HONE.out rfl
          subst hs0
          go_wp2_with fail
          go_ret
          exact ⟨rfl, HB2.out⟩
      · have hjm : (len : Int) ≤ (j : Int) := by omega
        have hs0 : sh = true := by rw [HS0.out]; exact shapeL_all (fun x hx => hall x hx (by have := HLEN.out; omega))
        subst hs0
        clear hall hbk hbw
        go_wp2_with fail
        go_ret
        exact ⟨rfl, HBW.out⟩

set_option maxHeartbeats 4000000 in
theorem refCheck_any (d : Doc) (kv : Value) (w : World) (hk : KV w 0 w.heap.size d kv) (hb : d.bulk ≤ 4194304) :
    Calls Tryd.prog 23 #[docV d kv] w fun e w' => e = .returned (.int .i64 d.code) ∧ Below w.heap.size w w' := by
  obtain ⟨a, cap, rfl⟩ := hk.slice
  have hnb := d.nodes_bulk
  obtain ⟨len, hlen⟩ : ∃ len, len = d.kids.length := ⟨_, rfl⟩
  rw [← hlen] at hk ⊢
  clear hlen
  obtain ⟨W0, hW0⟩ : ∃ W0, W0 = w.alloc (.cells (docCells d (.slice a len cap)).toArray 24) := ⟨_, rfl⟩
  have hst : Blk W0 w.heap.size (docCells d (.slice a len cap)) 24 ∧ Below w.heap.size w W0 := by
    rw [hW0]
    exact ⟨Blk.new _ _ _, (Below.refl _ w).alloc (Nat.le_refl _) _⟩
  have hk0 := (hk.below hst.2 (Nat.le_refl _)).wide (Nat.le_refl _) hst.2.size
  have HL := Lib.hid (large_any d _ 0 W0 hk0 (by omega))
  have HK0 := Lib.hid hk0
  have HST := Lib.hid hst
  have HW0 := Lib.hid hW0
  obtain ⟨N, hN⟩ : ∃ N, N = 0 + d.nodes := ⟨_, rfl⟩
  rw [← hN] at HL
  have hNb : (N : Int) ≤ 8388608 := by omega
  have HCD : Hid (d.code = if 64000 < d.depth then 1501 else if d.shape = true then 0 else 1500) := Lib.hid rfl
  clear hk0 hst hW0 hk hN hnb
  unfold docV at HL
  unfold docV
  go_enter Tryd.func23, Tryd.ntmps23
  go_wp2_with fail
  refine (Calls.at_world (by rw [HW0.out]; rfl) HL.out).mono ?_
  rintro e w1 ⟨rfl, hb1⟩
  have hb1' : Below W0.heap.size W0 w1 := hb1
  have HB1 := Lib.hid (HST.out.2.call hb1')
  have HX1 := Lib.hid (HST.out.1.below hb1')
  have HK1 := Lib.hid ((HK0.out.below hb1' (Nat.le_refl _)).wide (Nat.le_refl _) hb1'.size)
  have HD := Lib.hid (deepIn_any d _ 64000 w1 HK1.out (by omega) hb)
  have c0 := HX1.out.cell 0; have c1 := HX1.out.cell 1; have c2 := HX1.out.cell 2; have c3 := HX1.out.cell 3; have c4 := HX1.out.cell 4; have c5 := HX1.out.cell 5
  simp only [docCells, List.getElem?_cons_zero, List.getElem?_cons_succ] at c0 c1 c2 c3 c4 c5
  unfold docV at HD
  clear hb1 hb1' HL
  go_wp2_with fail
  refine HD.out.mono ?_
  rintro e w2 ⟨rfl, hb2⟩
  have HB2 := Lib.hid (HB1.out.call hb2)
  have HX2 := Lib.hid (HX1.out.below hb2)
  have HK2 := Lib.hid ((HK1.out.below hb2 (Nat.le_refl _)).wide (Nat.le_refl _) hb2.size)
  clear hb2 HD c0 c1 c2 c3 c4 c5
  by_cases hdp : 64000 < d.depth
  · rw [decide_eq_true hdp]
    have hcd : d.code = 1501 := by rw [HCD.out, if_pos hdp]
    have HCDX := Lib.hid hcd
    clear hdp hcd HCD
    go_wp2_with fail
    go_ret
    exact ⟨by rw [HCDX.out]; rfl, HB2.out⟩
  · rw [decide_eq_false hdp]
    have HS := Lib.hid (shape_any d _ w2 HK2.out hb)
    unfold docV at HS
    have c0 := HX2.out.cell 0; have c1 := HX2.out.cell 1; have c2 := HX2.out.cell 2; have c3 := HX2.out.cell 3; have c4 := HX2.out.cell 4; have c5 := HX2.out.cell 5
    simp only [docCells, List.getElem?_cons_zero, List.getElem?_cons_succ] at c0 c1 c2 c3 c4 c5
    have HDP := Lib.hid hdp
    clear hdp
    go_wp2_with fail
    refine HS.out.mono ?_
    rintro e w3 ⟨rfl, hb3⟩
    have HB3 := Lib.hid (HB2.out.call hb3)
    clear hb3 HS c0 c1 c2 c3 c4 c5
    cases hsh : d.shape with
    | true =>
      have hcd : d.code = 0 := by rw [HCD.out, if_neg HDP.out, if_pos hsh]
      have HCDX := Lib.hid hcd
      clear hcd HCD hsh
      go_wp2_with fail
      go_ret
      exact ⟨by rw [HCDX.out]; rfl, HB3.out⟩
    | false =>
      have hcd : d.code = 1500 := by rw [HCD.out, if_neg HDP.out, if_neg (by rw [hsh]; simp)]
      have HCDX := Lib.hid hcd
      clear hcd HCD hsh
      go_wp2_with fail
      go_ret
      exact ⟨by rw [HCDX.out]; rfl, HB3.out⟩
end

section
open Go.RowKit
set_option maxRecDepth 100000
set_option linter.unusedVariables false
set_option linter.unusedSimpArgs false

theorem sprD_false (d : Doc) : d.sprD false = d := by
  refine Doc.ind (P := fun d => d.sprD false = d) (fun d ih => ?_) d
  rw [Doc.sprD_eq]
  have : d.kids.map (Doc.sprD false) = d.kids := by
    have : ∀ ks : List Doc, (∀ x ∈ ks, x ∈ d.kids) → ks.map (Doc.sprD false) = ks := by
      intro ks
      induction ks with
      | nil => intro _; rfl
      | cons x xs ih2 =>
        intro hm
        rw [List.map_cons, ih x (hm x (by simp)), ih2 (fun y hy => hm y (by simp [hy]))]
    exact this d.kids (fun x hx => hx)
  rw [this]
  have hb : sprBrk false d.kind d.brk (d.kidsMust false) = d.brk := by
    unfold sprBrk
    split <;> simp
  rw [hb]
  exact d.eta.symm
set_option maxHeartbeats 4000000 in
theorem refSpread_any (d : Doc) (kv : Value) (w : World) (hk : KV w 0 w.heap.size d kv) (hb : d.bulk ≤ 4194304) :
    Calls Tryd.prog 13 #[docV d kv] w fun e w' => ∃ kv', e = .returned (docV (d.sprD (decide (d.code = 0))) kv') ∧ KW w' w.heap.size w'.heap.size (d.sprD (decide (d.code = 0))) kv' ∧ Below w.heap.size w w' := by
  obtain ⟨a, cap, rfl⟩ := hk.slice
  obtain ⟨len, hlen⟩ : ∃ len, len = d.kids.length := ⟨_, rfl⟩
  rw [← hlen] at hk ⊢
  clear hlen
  obtain ⟨W0, hW0⟩ : ∃ W0, W0 = (w.alloc (.cells (docCells d (.slice a len cap)).toArray 24)).alloc (.cells (docCells (eDoc 0 []) (.slice none 0 0)).toArray 24) := ⟨_, rfl⟩
  have hst : Blk W0 w.heap.size (docCells d (.slice a len cap)) 24 ∧ Blk W0 (w.heap.size + 1) (docCells (eDoc 0 []) (.slice none 0 0)) 24 ∧ Below w.heap.size w W0 := by
    rw [hW0]
    exact ⟨(Blk.new _ _ _).alloc _, Blk.new' _ _ (by simp), ((Below.refl _ w).alloc (Nat.le_refl _) _).alloc (by simp) _⟩
  have hk0 : KV W0 0 W0.heap.size d (.slice a len cap) := (hk.below hst.2.2 (Nat.le_refl _)).wide (Nat.le_refl _) hst.2.2.size
  have HCH := Lib.hid (refCheck_any d _ W0 hk0 hb)
  have HST := Lib.hid hst
  have HK0 := Lib.hid hk0
  have HW0 := Lib.hid hW0
  clear hst hk0 hk hW0
  unfold docV at HCH
  -- what both ways give
  have hF : ∀ W1, Below W0.heap.size W0 W1 → (d.code = 0 → Calls Tryd.prog 31 #[docV d (.slice a len cap)] W1 fun e w' => ∃ kv', e = .returned (docV (d.sprD (decide (d.code = 0))) kv') ∧ KW w' W1.heap.size w'.heap.size (d.sprD (decide (d.code = 0))) kv' ∧ Below W1.heap.size W1 w') ∧
      (d.code ≠ 0 → Calls Tryd.prog 30 #[docV d (.slice a len cap)] W1 fun e w' => ∃ kv', e = .returned (docV (d.sprD (decide (d.code = 0))) kv') ∧ KW w' W1.heap.size w'.heap.size (d.sprD (decide (d.code = 0))) kv' ∧ Below W1.heap.size W1 w') := by
    intro W1 hb1
    have hk1 : KV W1 0 W1.heap.size d (.slice a len cap) := (HK0.out.below hb1 (Nat.le_refl _)).wide (Nat.le_refl _) hb1.size
    refine ⟨fun hc => ?_, fun hc => ?_⟩
    · rw [show decide (d.code = 0) = true from decide_eq_true hc]
      exact refSpr_any d _ W1 hk1 (code_shape hc).1 hb
    · rw [show decide (d.code = 0) = false from decide_eq_false hc, sprD_false]
      exact refSame_any d _ W1 hk1 hb
  have HF := Lib.hid hF
  clear hF
  obtain ⟨D', hD'⟩ : ∃ D', D' = d.sprD (decide (d.code = 0)) := ⟨_, rfl⟩
  rw [← hD'] at HF ⊢
  clear hD'
  unfold docV at HF
  unfold docV
  by_cases hc : d.code = 0
  case pos =>
    have e0 : (d.code != 0) = false := by simp [hc]
    have HCC := Lib.hid hc
    clear hc
    generalize d.code = cd at *
    go_enter Tryd.func13, Tryd.ntmps13
    go_wp2_with fail
    refine (Calls.at_world (by rw [HW0.out]; rfl) HCH.out).mono ?_
    rintro e w1 ⟨rfl, hb1⟩
    have hb1' : Below W0.heap.size W0 w1 := hb1
    have HB1 := Lib.hid (HST.out.2.2.call hb1')
    have HX1 := Lib.hid (HST.out.1.below hb1')
    have HY1 := Lib.hid (HST.out.2.1.below hb1')
    have HC := Lib.hid ((HF.out w1 hb1').1 HCC.out)
    have c0 := HX1.out.cell 0; have c1 := HX1.out.cell 1; have c2 := HX1.out.cell 2; have c3 := HX1.out.cell 3; have c4 := HX1.out.cell 4; have c5 := HX1.out.cell 5
    simp only [docCells, List.getElem?_cons_zero, List.getElem?_cons_succ] at c0 c1 c2 c3 c4 c5
    clear hb1 hb1' HCH HF
    go_wp2_with fail
    refine HC.out.mono ?_
    rintro e w2 ⟨kv', rfl, hkw2, hb2⟩
    obtain ⟨a', c', rfl⟩ := (KG.kv hkw2).slice
    obtain ⟨n', hn'⟩ : ∃ n', n' = D'.kids.length := ⟨_, rfl⟩
    rw [← hn'] at hkw2 ⊢
    have HKW2 := Lib.hid hkw2
    have HY2 := Lib.hid (HY1.out.below hb2)
    have HB2 := Lib.hid (HB1.out.call hb2)
    have HZ1 := Lib.hid HB1.out.size
    have hlt1 : w.heap.size + 1 < w1.heap.size := HY1.out.lt
    have r0 := HY2.out.cell 0; have r1 := HY2.out.cell 1; have r2 := HY2.out.cell 2; have r3 := HY2.out.cell 3; have r4 := HY2.out.cell 4; have r5 := HY2.out.cell 5
    have s0 := HY2.out.frozen 0; have s1 := HY2.out.frozen 1; have s2 := HY2.out.frozen 2; have s3 := HY2.out.frozen 3; have s4 := HY2.out.frozen 4; have s5 := HY2.out.frozen 5
    simp only [docCells, eDoc, Doc.kind, Doc.text, Doc.brk, Doc.id, Doc.width, List.getElem?_cons_zero, List.getElem?_cons_succ] at r0 r1 r2 r3 r4 r5
    clear hkw2 hb2 hn' c0 c1 c2 c3 c4 c5 HC
    go_wp2_with fail
    refine bodyPost_ret (v := .agg #[.int .i64 D'.kind, .string D'.text, .slice a' n' c', .bool D'.brk, .int .i64 D'.id, .int .i64 D'.width]) (by simp [results, Tryd.f13, go_sem, r0, r1, r2, r3, r4, r5]) rfl ⟨.slice a' n' c', rfl, ?_, ?_⟩
    · have hz1 := HZ1.out
      refine KG.of thawX_stab hz1 ?_ (fun b hb hb2 => set6_heap w2 (w.heap.size + 1) b _ _ _ _ _ _ (by omega)) HKW2.out
      simp
    · exact set6_below HB2.out (w.heap.size + 1) _ _ _ _ _ _ (by omega)
  case neg =>
    have e0 : (d.code != 0) = true := by simpa using hc
    have HCC := Lib.hid hc
    clear hc
    generalize d.code = cd at *
    go_enter Tryd.func13, Tryd.ntmps13
    go_wp2_with fail
    refine (Calls.at_world (by rw [HW0.out]; rfl) HCH.out).mono ?_
    rintro e w1 ⟨rfl, hb1⟩
    have hb1' : Below W0.heap.size W0 w1 := hb1
    have HB1 := Lib.hid (HST.out.2.2.call hb1')
    have HX1 := Lib.hid (HST.out.1.below hb1')
    have HY1 := Lib.hid (HST.out.2.1.below hb1')
    have HC := Lib.hid ((HF.out w1 hb1').2 HCC.out)
    have c0 := HX1.out.cell 0; have c1 := HX1.out.cell 1; have c2 := HX1.out.cell 2; have c3 := HX1.out.cell 3; have c4 := HX1.out.cell 4; have c5 := HX1.out.cell 5
    simp only [docCells, List.getElem?_cons_zero, List.getElem?_cons_succ] at c0 c1 c2 c3 c4 c5
    clear hb1 hb1' HCH HF
    go_wp2_with fail
    refine HC.out.mono ?_
    rintro e w2 ⟨kv', rfl, hkw2, hb2⟩
    obtain ⟨a', c', rfl⟩ := (KG.kv hkw2).slice
    obtain ⟨n', hn'⟩ : ∃ n', n' = D'.kids.length := ⟨_, rfl⟩
    rw [← hn'] at hkw2 ⊢
    have HKW2 := Lib.hid hkw2
    have HY2 := Lib.hid (HY1.out.below hb2)
    have HB2 := Lib.hid (HB1.out.call hb2)
    have HZ1 := Lib.hid HB1.out.size
    have hlt1 : w.heap.size + 1 < w1.heap.size := HY1.out.lt
    have r0 := HY2.out.cell 0; have r1 := HY2.out.cell 1; have r2 := HY2.out.cell 2; have r3 := HY2.out.cell 3; have r4 := HY2.out.cell 4; have r5 := HY2.out.cell 5
    have s0 := HY2.out.frozen 0; have s1 := HY2.out.frozen 1; have s2 := HY2.out.frozen 2; have s3 := HY2.out.frozen 3; have s4 := HY2.out.frozen 4; have s5 := HY2.out.frozen 5
    simp only [docCells, eDoc, Doc.kind, Doc.text, Doc.brk, Doc.id, Doc.width, List.getElem?_cons_zero, List.getElem?_cons_succ] at r0 r1 r2 r3 r4 r5
    clear hkw2 hb2 hn' c0 c1 c2 c3 c4 c5 HC
    go_wp2_with fail
    refine bodyPost_ret (v := .agg #[.int .i64 D'.kind, .string D'.text, .slice a' n' c', .bool D'.brk, .int .i64 D'.id, .int .i64 D'.width]) (by simp [results, Tryd.f13, go_sem, r0, r1, r2, r3, r4, r5]) rfl ⟨.slice a' n' c', rfl, ?_, ?_⟩
    · have hz1 := HZ1.out
      refine KG.of thawX_stab hz1 ?_ (fun b hb hb2 => set6_heap w2 (w.heap.size + 1) b _ _ _ _ _ _ (by omega)) HKW2.out
      simp
    · exact set6_below HB2.out (w.heap.size + 1) _ _ _ _ _ _ (by omega)
end

section
open Go.RowKit
set_option maxRecDepth 100000
set_option linter.unusedVariables false
set_option linter.unusedSimpArgs false

set_option maxHeartbeats 16000000 in
theorem spreadDocs_any (D : Doc) (kd : Value) (w : World) (hkd : KV w 0 w.heap.size D kd) (hbd : D.bulk ≤ 4194304) (hT : Tabs w) :
    Calls Tryd.prog 3 #[docV D kd] w fun e w' => e = .returned (.bool true) ∧ Below w.heap.size w w' := by
  obtain ⟨ad, cd, rfl⟩ := hkd.slice
  obtain ⟨len, hlen⟩ : ∃ len, len = D.kids.length := ⟨_, rfl⟩
  rw [← hlen] at hkd ⊢
  clear hlen
  obtain ⟨B0, hB0⟩ : ∃ B0, B0 = w.heap.size := ⟨_, rfl⟩
  obtain ⟨W0, hW0⟩ : ∃ W0, W0 = w.alloc (.cells (docCells D (.slice ad len cd)).toArray 24) := ⟨_, rfl⟩
  have hst : Blk W0 B0 (docCells D (.slice ad len cd)) 24 ∧ Below w.heap.size w W0 := by
    rw [hW0]
    exact ⟨Blk.new' _ _ hB0, (Below.refl _ w).alloc (Nat.le_refl _) _⟩
  have hk0 : KV W0 0 W0.heap.size D (.slice ad len cd) := (hkd.below hst.2 (Nat.le_refl _)).wide (Nat.le_refl _) hst.2.size
  have HSH := Lib.hid (shallow_any D _ W0 hk0 hbd)
  have HX0 := Lib.hid hst.1
  have HB := Lib.hid hst.2
  have HK0 := Lib.hid hk0
  have HW0 := Lib.hid hW0
  have HB0 := Lib.hid hB0
  have HT := Lib.hid hT
  obtain ⟨S, hS⟩ : ∃ S, S = D.sprD (decide (D.code = 0)) := ⟨_, rfl⟩
  have hSP : ∀ (kv : Value) (W : World), KV W 0 W.heap.size D kv → Tabs W → Calls Tryd.prog 12 #[docV D kv] W fun e w' => ∃ kv', e = .returned (docV S kv') ∧ KW w' W.heap.size w'.heap.size S kv' ∧ Below W.heap.size W w' := fun kv W h1 h2 => by rw [hS]; exact spread_any D kv W h1 hbd h2
  have hRS : ∀ (kv : Value) (W : World), KV W 0 W.heap.size D kv → Calls Tryd.prog 13 #[docV D kv] W fun e w' => ∃ kv', e = .returned (docV S kv') ∧ KW w' W.heap.size w'.heap.size S kv' ∧ Below W.heap.size W w' := fun kv W h1 => by rw [hS]; exact refSpread_any D kv W h1 hbd
  have hSb : S.bulk ≤ 4194304 := by
    rw [hS]
    cases decide (D.code = 0) with
    | true => rw [sprD_bulk]; exact hbd
    | false => rw [sprD_false]; exact hbd
  have HSP := Lib.hid hSP
  have HRS := Lib.hid hRS
  obtain ⟨nS, hnS⟩ : ∃ nS, nS = S.kids.length := ⟨_, rfl⟩
  have HNS := Lib.hid hnS
  clear hst hk0 hkd hT hW0 hS hSP hRS hnS
  unfold docV at HSH
  unfold docV
  go_enter Tryd.func3, Tryd.ntmps3
  go_wp2_with fail
  rw [← hB0]
  clear hB0
  refine (Calls.at_world (by rw [HW0.out]; rfl) HSH.out).mono ?_
  rintro e w1 ⟨rfl, hb1⟩
  have hb1' : Below W0.heap.size W0 w1 := hb1
  have HB1 := Lib.hid (HB.out.call hb1')
  have HX1 := Lib.hid (HX0.out.below hb1')
  have HK1 := Lib.hid ((HK0.out.below hb1' (Nat.le_refl _)).wide (Nat.le_refl _) hb1'.size)
  clear hb1 hb1' HSH HX0 HK0 HB HW0
  by_cases hsa : D.depth ≤ 65536
  case neg =>
    rw [decide_eq_false hsa]
    clear hsa
    go_wp2_with fail
    go_ret
    exact ⟨rfl, HB1.out⟩
  rw [decide_eq_true hsa]
  clear hsa
  have a0 := HX1.out.cell 0; have a1 := HX1.out.cell 1; have a2 := HX1.out.cell 2; have a3 := HX1.out.cell 3; have a4 := HX1.out.cell 4; have a5 := HX1.out.cell 5
  simp only [docCells, List.getElem?_cons_zero, List.getElem?_cons_succ] at a0 a1 a2 a3 a4 a5
  have HC := Lib.hid (lendDoc_any D _ w1 HK1.out hbd)
  unfold docV at HC
  go_wp2_with fail
  refine HC.out.mono ?_
  rintro e w2 ⟨kvx, rfl, hkx, hb2⟩
  obtain ⟨ax, cx, rfl⟩ := (KG.kv hkx).slice
  obtain ⟨nx, hnx⟩ : ∃ nx, nx = D.kids.length := ⟨_, rfl⟩
  rw [← hnx] at hkx ⊢
  clear hnx HC a0 a1 a2 a3 a4 a5
  -- x boxed
  obtain ⟨W2, hW2⟩ : ∃ W2, W2 = w2.alloc (.cells (docCells D (.slice ax nx cx)).toArray 24) := ⟨_, rfl⟩
  have hb2a : Below w1.heap.size w1 W2 := by rw [hW2]; exact hb2.alloc hb2.size _
  have hz2 : W2.heap.size = w2.heap.size + 1 := by rw [hW2]; simp
  obtain ⟨gx, hgx⟩ : ∃ gx, gx = w2.heap.size := ⟨_, rfl⟩
  have HXX2 := Lib.hid (show Blk W2 gx (docCells D (.slice ax nx cx)) 24 by rw [hW2]; exact Blk.new' _ _ hgx)
  have hkx2 : KR W2 0 W2.heap.size D (.slice ax nx cx) := KG.of roomX_stab (Nat.zero_le _) (by omega) (fun b _ hb => by rw [hW2]; exact Below.heap_alloc w2 _ b hb) hkx
  have HKX2 := Lib.hid hkx2
  have HB2 := Lib.hid (HB1.out.call hb2a)
  have HX2 := Lib.hid (HX1.out.below hb2a)
  have HK2 := Lib.hid ((HK1.out.below hb2a (Nat.le_refl _)).wide (Nat.le_refl _) hb2a.size)
  have HC := Lib.hid (HSP.out _ W2 (KG.kv hkx2) (HT.out.below HB2.out))
  have HW2 := Lib.hid hW2
  unfold docV at HC
  have HQgx := Lib.hid hgx
  clear hb2 hb2a hkx hkx2 hW2 hgx hz2 HX1 HK1 HB1
  go_wp2_with fail
  rw [← HQgx.out]
  refine (Calls.at_world (by rw [HW2.out]; rfl) HC.out).mono ?_
  rintro e w3 ⟨kva, rfl, hka, hb3⟩
  have hb3 : Below W2.heap.size W2 w3 := hb3
  obtain ⟨aa, ca, rfl⟩ := (KG.kv hka).slice
  rw [← HNS.out] at hka ⊢
  clear HC HW2
  -- a boxed
  obtain ⟨W3, hW3⟩ : ∃ W3, W3 = w3.alloc (.cells (docCells S (.slice aa nS ca)).toArray 24) := ⟨_, rfl⟩
  have hb3a : Below W2.heap.size W2 W3 := by rw [hW3]; exact hb3.alloc hb3.size _
  have hz3 : W3.heap.size = w3.heap.size + 1 := by rw [hW3]; simp
  obtain ⟨ga, hga⟩ : ∃ ga, ga = w3.heap.size := ⟨_, rfl⟩
  have HXA3 := Lib.hid (show Blk W3 ga (docCells S (.slice aa nS ca)) 24 by rw [hW3]; exact Blk.new' _ _ hga)
  have hka3 : KW W3 W2.heap.size (ga + 1) S (.slice aa nS ca) := KG.of thawX_stab (Nat.le_refl _) (by omega) (fun b _ hb => by rw [hW3]; exact Below.heap_alloc w3 _ b hb) hka
  have HKA3 := Lib.hid hka3
  have HB3 := Lib.hid (HB2.out.call hb3a)
  have HX3 := Lib.hid (HX2.out.below hb3a)
  have HK3 := Lib.hid ((HK2.out.below hb3a (Nat.le_refl _)).wide (Nat.le_refl _) hb3a.size)
  have HXX3 := Lib.hid (HXX2.out.below hb3a)
  have HKX3 := Lib.hid (KG.wide roomX_stab (KG.below roomX_stab HKX2.out hb3a (Nat.le_refl _)) (Nat.le_refl _) hb3a.size)
  have HGA := Lib.hid (show ga + 1 = W3.heap.size ∧ W2.heap.size ≤ ga ∧ w.heap.size ≤ W2.heap.size by have h1 := HB2.out.size; have h2 := hb3.size; omega)
  have HC := Lib.hid (HSP.out _ W3 (KG.kv HKX3.out) (HT.out.below HB3.out))
  have x0 := fun o => ((HXX2.out.below hb3).alloc o).cell 0; have x1 := fun o => ((HXX2.out.below hb3).alloc o).cell 1; have x2 := fun o => ((HXX2.out.below hb3).alloc o).cell 2; have x3 := fun o => ((HXX2.out.below hb3).alloc o).cell 3; have x4 := fun o => ((HXX2.out.below hb3).alloc o).cell 4; have x5 := fun o => ((HXX2.out.below hb3).alloc o).cell 5
  simp only [docCells, List.getElem?_cons_zero, List.getElem?_cons_succ] at x0 x1 x2 x3 x4 x5
  have HW3 := Lib.hid hW3
  unfold docV at HC
  have HQga := Lib.hid hga
  clear hb3 hb3a hka hka3 hW3 hga hz3 HX2 HK2 HB2 HXX2 HKX2
  go_wp2_with fail
  rw [← HQga.out]
  refine (Calls.at_world (by rw [HW3.out]; rfl) HC.out).mono ?_
  rintro e w4 ⟨kvb, rfl, hkb, hb4⟩
  have hb4 : Below W3.heap.size W3 w4 := hb4
  obtain ⟨ab, cb, rfl⟩ := (KG.kv hkb).slice
  rw [← HNS.out] at hkb ⊢
  clear HC HW3 x0 x1 x2 x3 x4 x5
  -- b boxed
  obtain ⟨W4, hW4⟩ : ∃ W4, W4 = w4.alloc (.cells (docCells S (.slice ab nS cb)).toArray 24) := ⟨_, rfl⟩
  have hb4a : Below W3.heap.size W3 W4 := by rw [hW4]; exact hb4.alloc hb4.size _
  have hz4 : W4.heap.size = w4.heap.size + 1 := by rw [hW4]; simp
  obtain ⟨gb, hgb⟩ : ∃ gb, gb = w4.heap.size := ⟨_, rfl⟩
  have HXB4 := Lib.hid (show Blk W4 gb (docCells S (.slice ab nS cb)) 24 by rw [hW4]; exact Blk.new' _ _ hgb)
  have hkb4 : KV W4 W3.heap.size W4.heap.size S (.slice ab nS cb) := (KG.kv hkb).of (Nat.le_refl _) (by omega) (fun b _ hb => by rw [hW4]; exact Below.heap_alloc w4 _ b hb)
  have HKB4 := Lib.hid hkb4
  have HB4 := Lib.hid (HB3.out.call hb4a)
  have HX4 := Lib.hid (HX3.out.below hb4a)
  have HK4 := Lib.hid ((HK3.out.below hb4a (Nat.le_refl _)).wide (Nat.le_refl _) hb4a.size)
  have HXX4 := Lib.hid (HXX3.out.below hb4a)
  have HKX4 := Lib.hid (KG.wide roomX_stab (KG.below roomX_stab HKX3.out hb4a (Nat.le_refl _)) (Nat.le_refl _) hb4a.size)
  have HXA4 := Lib.hid (HXA3.out.below hb4a)
  have HKA4 := Lib.hid (KG.below thawX_stab HKA3.out hb4a (by have := HGA.out; omega))
  have HGB := Lib.hid (show ga + 1 ≤ gb ∧ ga + 1 ≤ W3.heap.size ∧ W3.heap.size ≤ W4.heap.size by have h1 := HGA.out; have h2 := hb4.size; have h3 := hb4a.size; omega)
  have HC := Lib.hid (HRS.out _ W4 HK4.out)
  have x0 := fun o => ((HX3.out.below hb4).alloc o).cell 0; have x1 := fun o => ((HX3.out.below hb4).alloc o).cell 1; have x2 := fun o => ((HX3.out.below hb4).alloc o).cell 2; have x3 := fun o => ((HX3.out.below hb4).alloc o).cell 3; have x4 := fun o => ((HX3.out.below hb4).alloc o).cell 4; have x5 := fun o => ((HX3.out.below hb4).alloc o).cell 5
  simp only [docCells, List.getElem?_cons_zero, List.getElem?_cons_succ] at x0 x1 x2 x3 x4 x5
  have HW4 := Lib.hid hW4
  unfold docV at HC
  have HQgb := Lib.hid hgb
  clear hb4 hb4a hkb hkb4 hW4 hgb hz4 HX3 HK3 HB3 HXX3 HKX3 HXA3 HKA3
  go_wp2_with fail
  rw [← HQgb.out]
  refine (Calls.at_world (by rw [HW4.out]; rfl) HC.out).mono ?_
  rintro e w5 ⟨kvu, rfl, hku, hb5⟩
  have hb5 : Below W4.heap.size W4 w5 := hb5
  obtain ⟨au, cu, rfl⟩ := (KG.kv hku).slice
  rw [← HNS.out] at hku ⊢
  clear HC HW4 x0 x1 x2 x3 x4 x5
  -- u boxed
  obtain ⟨W5, hW5⟩ : ∃ W5, W5 = w5.alloc (.cells (docCells S (.slice au nS cu)).toArray 24) := ⟨_, rfl⟩
  have hb5a : Below W4.heap.size W4 W5 := by rw [hW5]; exact hb5.alloc hb5.size _
  have hz5 : W5.heap.size = w5.heap.size + 1 := by rw [hW5]; simp
  obtain ⟨gu, hgu⟩ : ∃ gu, gu = w5.heap.size := ⟨_, rfl⟩
  have HXU5 := Lib.hid (show Blk W5 gu (docCells S (.slice au nS cu)) 24 by rw [hW5]; exact Blk.new' _ _ hgu)
  have hku5 : KV W5 W3.heap.size W5.heap.size S (.slice au nS cu) := (KG.kv hku).of (by have := HGB.out; omega) (by omega) (fun b _ hb => by rw [hW5]; exact Below.heap_alloc w5 _ b hb)
  have HKU5 := Lib.hid hku5
  have HB5 := Lib.hid (HB4.out.call hb5a)
  have HX5 := Lib.hid (HX4.out.below hb5a)
  have HK5 := Lib.hid ((HK4.out.below hb5a (Nat.le_refl _)).wide (Nat.le_refl _) hb5a.size)
  have HXX5 := Lib.hid (HXX4.out.below hb5a)
  have HKX5 := Lib.hid (KG.wide roomX_stab (KG.below roomX_stab HKX4.out hb5a (Nat.le_refl _)) (Nat.le_refl _) hb5a.size)
  have HXA5 := Lib.hid (HXA4.out.below hb5a)
  have HKA5 := Lib.hid (KG.below thawX_stab HKA4.out hb5a (by have := HGA.out; have := HGB.out; omega))
  have HXB5 := Lib.hid (HXB4.out.below hb5a)
  have HKB5 := Lib.hid ((HKB4.out.below hb5a (Nat.le_refl _)).wide (Nat.le_refl _) hb5a.size)
  have HGU := Lib.hid (show ga + 1 ≤ gu ∧ W4.heap.size ≤ W5.heap.size by have h1 := HGB.out; have h2 := hb5.size; have h3 := hb5a.size; omega)
  have hkaw : KV W5 0 W5.heap.size S (.slice aa nS ca) := (KG.kv HKA5.out).wide (Nat.zero_le _) (by have h1 := HGB.out; have h2 := HGU.out; omega)
  have HC := Lib.hid (sameDoc_any S _ _ W5 hkaw (HKU5.out.wide (Nat.zero_le _) (Nat.le_refl _)) hSb)
  have x0 := fun o => ((HXA4.out.below hb5).alloc o).cell 0; have x1 := fun o => ((HXA4.out.below hb5).alloc o).cell 1; have x2 := fun o => ((HXA4.out.below hb5).alloc o).cell 2; have x3 := fun o => ((HXA4.out.below hb5).alloc o).cell 3; have x4 := fun o => ((HXA4.out.below hb5).alloc o).cell 4; have x5 := fun o => ((HXA4.out.below hb5).alloc o).cell 5
  simp only [docCells, List.getElem?_cons_zero, List.getElem?_cons_succ] at x0 x1 x2 x3 x4 x5
  have HW5 := Lib.hid hW5
  unfold docV at HC
  have HQgu := Lib.hid hgu
  clear hb5 hb5a hku hku5 hW5 hgu hz5 HX4 HK4 HB4 HXX4 HKX4 HXA4 HKA4 HXB4 HKB4 hkaw
  go_wp2_with fail
  rw [← HQgu.out]
  refine (Calls.at_world (by rw [HW5.out]; rfl) HC.out).mono ?_
  rintro e w6 ⟨rfl, hb6⟩
  have hb6 : Below W5.heap.size W5 w6 := hb6
  have HB6 := Lib.hid (HB5.out.call hb6)
  have HX6 := Lib.hid (HX5.out.below hb6)
  have HK6 := Lib.hid ((HK5.out.below hb6 (Nat.le_refl _)).wide (Nat.le_refl _) hb6.size)
  have HXX6 := Lib.hid (HXX5.out.below hb6)
  have HKX6 := Lib.hid (KG.wide roomX_stab (KG.below roomX_stab HKX5.out hb6 (Nat.le_refl _)) (Nat.le_refl _) hb6.size)
  have HXA6 := Lib.hid (HXA5.out.below hb6)
  have HKA6 := Lib.hid (KG.below thawX_stab HKA5.out hb6 (by have := HGA.out; have := HGB.out; have := HGU.out; omega))
  have HXB6 := Lib.hid (HXB5.out.below hb6)
  have HKB6 := Lib.hid ((HKB5.out.below hb6 (Nat.le_refl _)).wide (Nat.le_refl _) hb6.size)
  have HXU6 := Lib.hid (HXU5.out.below hb6)
  have HKU6 := Lib.hid ((HKU5.out.below hb6 (Nat.le_refl _)).wide (Nat.le_refl _) hb6.size)
  clear HC HW5 x0 x1 x2 x3 x4 x5 hb6 HX5 HK5 HB5 HXX5 HKX5 HXA5 HKA5 HXB5 HKB5 HXU5 HKU5
  have HC := Lib.hid (keptDoc_any D _ _ w6 HKX6.out HK6.out hbd)
  unfold docV at HC
  have x0 := HXX6.out.cell 0; have x1 := HXX6.out.cell 1; have x2 := HXX6.out.cell 2; have x3 := HXX6.out.cell 3; have x4 := HXX6.out.cell 4; have x5 := HXX6.out.cell 5
  have y0 := HX6.out.cell 0; have y1 := HX6.out.cell 1; have y2 := HX6.out.cell 2; have y3 := HX6.out.cell 3; have y4 := HX6.out.cell 4; have y5 := HX6.out.cell 5
  simp only [docCells, List.getElem?_cons_zero, List.getElem?_cons_succ] at x0 x1 x2 x3 x4 x5 y0 y1 y2 y3 y4 y5
  go_wp2_with fail
  refine HC.out.mono ?_
  rintro e w7 ⟨rfl, hb7⟩
  have HB7 := Lib.hid (HB6.out.call hb7)
  have HXA7 := Lib.hid (HXA6.out.below hb7)
  have HKA7 := Lib.hid (KG.below thawX_stab HKA6.out hb7 (by have := HXA6.out.lt; omega))
  have HXB7 := Lib.hid (HXB6.out.below hb7)
  have HKB7 := Lib.hid ((HKB6.out.below hb7 (Nat.le_refl _)).wide (Nat.le_refl _) hb7.size)
  have HXU7 := Lib.hid (HXU6.out.below hb7)
  have HKU7 := Lib.hid ((HKU6.out.below hb7 (Nat.le_refl _)).wide (Nat.le_refl _) hb7.size)
  clear HC x0 x1 x2 x3 x4 x5 y0 y1 y2 y3 y4 y5 hb7 HX6 HK6 HB6 HXX6 HKX6 HXA6 HKA6 HXB6 HKB6 HXU6 HKU6
  have z0 := HXA7.out.cell 0
  have z2 := HXA7.out.cell 2
  have zf := HXA7.out.frozen 0
  simp only [docCells, List.getElem?_cons_zero, List.getElem?_cons_succ] at z0 z2
  have HC := Lib.hid (spoilDoc_any S ga 0 W2.heap.size (ga + 1) S.kind _ w7 z0 zf z2 (KG.sw HKA7.out) HGA.out.2.1 (by omega) hSb)
  clear z0 z2 zf
  go_wp2_with fail
  refine HC.out.mono ?_
  rintro e w8 ⟨rfl, hsp⟩
  have hz8 := hsp.below.size
  have HXB8 := Lib.hid (show Blk w8 gb (docCells S (.slice ab nS cb)) 24 from (hsp.high gb (by have := HGB.out; omega)).trans HXB7.out)
  have HXU8 := Lib.hid (show Blk w8 gu (docCells S (.slice au nS cu)) 24 from (hsp.high gu (by have := HGU.out; omega)).trans HXU7.out)
  have hkb8 : KV w8 0 w8.heap.size S (.slice ab nS cb) := HKB7.out.of (Nat.zero_le _) hz8 (fun b hb _ => hsp.high b (by have := HGB.out; omega))
  have hku8 : KV w8 0 w8.heap.size S (.slice au nS cu) := HKU7.out.of (Nat.zero_le _) hz8 (fun b hb _ => hsp.high b (by have := HGB.out; omega))
  have HB8 := Lib.hid (HB7.out.trans (hsp.below.mono HGA.out.2.2))
  have HC2 := Lib.hid (sameDoc_any S _ _ w8 hkb8 hku8 hSb)
  unfold docV at HC2
  clear hsp hkb8 hku8 hz8 HC HXA7 HKA7 HXB7 HKB7 HXU7 HKU7
  have x0 := HXB8.out.cell 0; have x1 := HXB8.out.cell 1; have x2 := HXB8.out.cell 2; have x3 := HXB8.out.cell 3; have x4 := HXB8.out.cell 4; have x5 := HXB8.out.cell 5
  have y0 := HXU8.out.cell 0; have y1 := HXU8.out.cell 1; have y2 := HXU8.out.cell 2; have y3 := HXU8.out.cell 3; have y4 := HXU8.out.cell 4; have y5 := HXU8.out.cell 5
  simp only [docCells, List.getElem?_cons_zero, List.getElem?_cons_succ] at x0 x1 x2 x3 x4 x5 y0 y1 y2 y3 y4 y5
  go_wp2_with fail
  refine HC2.out.mono ?_
  rintro e w9 ⟨rfl, hb9⟩
  have HB9 := Lib.hid (HB8.out.call hb9)
  clear hb9 x0 x1 x2 x3 x4 x5 y0 y1 y2 y3 y4 y5 HC2
  go_wp2_with (go_at_call 17; refine (awake16_any _ (HT.out.below HB9.out)).mono ?_; rintro e wk ⟨rfl, hbk⟩; have HBK := Lib.hid (HB9.out.call hbk); clear hbk)
  go_ret
  exact ⟨rfl, HBK.out⟩
end

section
open Go.RowKit Go.ChangeShapes Go.WideShapes Go.ChangeAt
open Go.ChangeMaps (open_string shut_string)
set_option maxRecDepth 100000
set_option linter.unusedVariables false
set_option linter.unusedSimpArgs false

theorem laidOut : laidOutB Tryd.prog = true := by kernel_rfl
theorem spreadDocs_call (D : Doc) (kd : Value) (w : World) (hkd : KV w 0 w.heap.size D kd) (hbd : D.bulk ≤ 1048576) (hT : Tabs w) :
    Calls Tryd.prog 3 #[docV D kd] w fun e w' => e = .returned (.bool true) ∧ Below w.heap.size w w' :=
  spreadDocs_any D kd w hkd (by omega) hT

/-- What the walk gives, for every argument. -/
theorem spreadDocs_contract (H : Type) (enc : TypeId × Value → H) (W : World) (base : Nat) (args : Array Value) (ds gs : List (DataW H)) (before : List MemPlace)
    (hval : ∀ (j : Nat) t v, Tryd.f3.params[j]? = some t → args[j]? = some v → Value.okWide Tryd.prog W .any base t v)
    (hW : DataW.Whole enc Tryd.prog Tryd.f3.params.toList Rows.spreadDocsSpec.vars false W args.toList ds gs before)
    (hsz : (DataW.weightsEach Tryd.prog (Tryd.f3.params.toList ++ Rows.spreadDocsSpec.plain.varTypes Tryd.prog) (ds ++ gs)).all (· ≤ reachBytes) = true) (hT : Tabs W) (hc : Rows.uptoSmall H (ds ++ gs) = true) :
    Calls Tryd.prog 3 args W fun e W' => ∃ v, e = .returned v ∧ Rows.spreadDocsSpec.post enc Tryd.prog Tryd.f3 false true false false W args v W' := by
  have hW' := hW
  obtain ⟨p, q, hA0, hV, rfl, hfz, hnd⟩ := hW
  have hA : DataW.TrodAll enc Tryd.prog W 0 (fun _ => true) true Tryd.f3.params.toList args.toList ds p := hA0
  rw [Tryd.params3] at hA hval hsz
  obtain ⟨v0, vs0, d0, ds0, p0, q0, hargs, rfl, rfl, h0, r0⟩ := trodAll_cons hA
  obtain ⟨rfl, rfl, rfl⟩ := trodAll_nil r0
  obtain rfl : args = #[v0] := by cases args; simp_all
  obtain ⟨rfl, rfl⟩ := trodVars_none hV
  have hlt := fun x hx => hW'.lt x hx
  obtain ⟨a0, y0, rfl, k0, b0⟩ := doc_open (hval 0 24 v0 rfl rfl) h0
  clear hA0 hval
  simp [Rows.uptoSmall, Rows.uptoBulkAll, Rows.uptoBulk] at hc
  refine (spreadDocs_call a0 y0 W k0 (by omega) hT).mono fun e W' ⟨he, hb⟩ => ?_
  subst he
  exact ⟨_, rfl, law_post_any (pv := []) Tryd.underlying4 (by kernel_rfl) hW' rfl (trodAll_cons_mk (Below.trod laidOut (by kernel_rfl) (of_decide_eq_true (by kernel_rfl)) h0 hb (fun x hx => hlt x (by simp [hx]))) trodAll_mk0) rfl hb⟩

theorem spreadDocs_reads (os : Os) {H : Type} (enc : TypeId × Value → H) : ∃ places, DataW.whole enc Tryd.prog ((laidWorld os).forCall (fun _ _ => 0) ⟨#[], #[.agg #[.int .i64 0, .string ⟨#[]⟩, .slice none 0 0, .bool false, .int .i64 0, .int .i64 0]], []⟩).memory Tryd.f3.params.toList Rows.spreadDocsSpec.vars false (#[.agg #[.int .i64 0, .string ⟨#[]⟩, .slice none 0 0, .bool false, .int .i64 0, .int .i64 0]] : Array Value).toList 8 = some ([.agg [.lit (.int .i64 0), .lit (.string []), .nil, .lit (.bool false), .lit (.int .i64 0), .lit (.int .i64 0)]], [], places) :=
  ⟨[], by kernel_rfl⟩
theorem spreadDocs_lifted (os : Os) (started : os.Started) (H : Type) (enc : TypeId × Value → H) (F : Stop.Interp) :
    ReturnsInHanded {} Tryd.checked os 3 .any ((Rows.OpenSpec.upto Rows.spreadDocsSpec).preRow enc Tryd.prog Tryd.f3 Rows.spreadDocsUptoRow.domain false Rows.spreadDocsUptoRow.laid) (((Rows.OpenSpec.upto Rows.spreadDocsSpec).at F).post enc Tryd.prog Tryd.f3 false true false false) := by
  obtain ⟨places, hx⟩ := spreadDocs_reads os enc
  refine returnsInHanded_of_row (C := Tryd.checked) (s := (Rows.OpenSpec.upto Rows.spreadDocsSpec)) ownKnob_none started (by kernel_rfl) Tryd.func3
    (witness_row_at (enc := enc) (C := Tryd.checked) false (laidWorld os) #[.agg #[.int .i64 0, .string ⟨#[]⟩, .slice none 0 0, .bool false, .int .i64 0, .int .i64 0]] rfl (by kernel_rfl) (by kernel_rfl) (by kernel_rfl)
      (OpenSpec.preRow_of_cond 8 hx (by kernel_rfl) (fun k hk => by cases hk; kernel_rfl) (by kernel_rfl) (laid_met os _))) ?_
  intro W base args ds gs before hval hW _ hc0 hsz hL _ _
  exact spreadDocs_contract H enc W base args ds gs before hval hW hsz (tabs_of_laid hL) (hc0 _ rfl)
theorem spreadDocs_said : Rows.SpreadDocsUptoSaid :=
  OpenClaim.holds_of_cond 3 Tryd.f3 rfl rfl rfl rfl rfl rfl rfl ⟨rfl, rfl, rfl, rfl, rfl⟩ rfl rfl rfl rfl rfl (by kernel_rfl) Tryd.func3 (by kernel_rfl)
    (of_decide_eq_true (by kernel_rfl)) (by unfold Func.isWrapper; first | (rw [if_pos (by decide +kernel)]; kernel_rfl) | (rw [if_neg (by decide +kernel)]; exact ⟨rfl, rfl⟩))
    (fun os started H enc _ F => by rw [OpenClaim.pre_eq_preRow]; exact spreadDocs_lifted os started H enc F)
theorem spreadDocs_plain (f : FuncId) (fn : Func) (hf : Tryd.pinned.checked.prog.funcNamed Rows.spreadDocsRow.func = some f) (hfn : Tryd.pinned.checked.prog.funcs[f]? = some fn) :
    false = Tryd.pinned.checked.prog.looks [] ∧ ∀ (j : Nat) t, fn.params[j]? = some t → Tryd.pinned.checked.prog.wantsStandIn t = false := by
  obtain rfl : f = 3 := Option.some.inj ((show Tryd.prog.funcNamed Rows.spreadDocsRow.func = some 3 by kernel_rfl).symm.trans hf) |>.symm
  obtain rfl : fn = Tryd.f3 := (Option.some.inj (Tryd.func3.symm.trans hfn)).symm
  refine ⟨by kernel_rfl, fun j t ht => ?_⟩
  rw [Tryd.params3] at ht
  have hm := Array.mem_of_getElem? ht
  have hall : ∀ t ∈ (#[24] : Array TypeId), Tryd.prog.wantsStandIn t = false := by
    intro t ht
    simp only [List.mem_toArray, List.mem_cons, List.mem_nil_iff, or_false] at ht
    rcases ht with rfl
    all_goals kernel_rfl
  exact hall t hm

/-- THE CARD. -/
theorem spreadDocs_card : Rows.SpreadDocsUptoCardSaid :=
  Claim7.holds_tied_plain_at .later [] _ _ _ _ spreadDocs_said (fun _ h => by cases h) (by kernel_rfl) (fun _ h => by cases h) spreadDocsUpto_row_tie rfl ⟨rfl, rfl⟩ (by kernel_rfl) rfl spreadDocs_plain (by kernel_rfl)
#print axioms spreadDocs_card
end
end Go.Proofs.YtaojlnibkajfbaaDoor
