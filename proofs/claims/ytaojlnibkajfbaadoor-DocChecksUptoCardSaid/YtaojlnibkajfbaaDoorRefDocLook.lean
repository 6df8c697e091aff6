/- platenref15: large, deep. -/
import Derived.Test.YtaojlnibkajfbaaDoorDocRow
namespace Go.Proofs.YtaojlnibkajfbaaDoor
open Go.RowKit
set_option maxRecDepth 100000
set_option linter.unusedVariables false
set_option linter.unusedSimpArgs false

theorem nodesL_take_succ {ks : List Doc} {j : Nat} (h : j < ks.length) : nodesL (ks.take (j + 1)) = nodesL (ks.take j) + (ks[j]).nodes := by
  rw [List.take_succ_eq_append_getElem h, nodesL_app]
  simp [nodesL]
theorem nodesL_take_le (ks : List Doc) (j : Nat) : nodesL (ks.take j) ≤ nodesL ks := by
  have := nodesL_app (ks.take j) (ks.drop j)
  rw [List.take_append_drop] at this
  omega
def LarIn (d : Doc) : Prop := ∀ (kv : Value) (m : Nat) (w : World), KV w 0 w.heap.size d kv → m + d.nodes ≤ 8388608 →
    Calls Tryd.prog 40 #[docV d kv, .int .i64 (m : Int)] w fun e w' => e = .returned (.int .i64 ((m + d.nodes : Nat) : Int)) ∧ Below w.heap.size w w'
set_option maxHeartbeats 4000000 in
theorem large_any (d : Doc) : LarIn d := by
  refine Doc.ind (P := LarIn) (fun d ih => ?_) d
  intro kv m w hk hm
  obtain ⟨a, cap, rfl⟩ := hk.slice
  have hkid := fun j hj => hk.kid (j := j) hj
  have hmem : ∀ j (hj : j < d.kids.length), LarIn d.kids[j] := fun j hj => ih _ (List.getElem_mem hj)
  have hnd := d.nodes_eq
  have hln := nodesL_len d.kids
  have hlen : d.kids.length < 8388608 := by omega
  have hbk := Blk.new w (docCells d (.slice a d.kids.length cap)) 24
  obtain ⟨len, hlen2⟩ : ∃ z, z = d.kids.length := ⟨_, rfl⟩
  simp only [← hlen2] at hlen hbk
  have HKID := Lib.hid hkid
  have HMEM := Lib.hid hmem
  have HBK := Lib.hid hbk
  have HLEN := Lib.hid hlen2
  have HND := Lib.hid hnd
  have hm8 : m + 1 ≤ 8388608 := by omega
  clear hk hkid hmem hbk ih
  rw [← hlen2]
  clear hlen2 hnd hln
  obtain ⟨N, hN⟩ : ∃ N, N = m + d.nodes := ⟨_, rfl⟩
  rw [← hN] at hm ⊢
  have HN := Lib.hid hN
  clear hN
  unfold docV
  go_enter Tryd.func40, Tryd.ntmps40
  go_wp2_with fail
  go_loopw [1, 5] (fun v i wr => ∃ j s : Nat, j ≤ len ∧ i = .int .i64 (j : Int) ∧ v = .int .i64 (s : Int) ∧ s = m + 1 + nodesL (d.kids.take j) ∧ s ≤ 8388608 ∧ Blk wr w.heap.size (docCells d (.slice a len cap)) 24 ∧ Below w.heap.size w wr) (fun _ i _ => len - (intOf i).toNat)
  case atStart =>
    exact ⟨0, m + 1, Nat.zero_le _, rfl, by go_num, by simp [nodesL], by omega, HBK.out, (Below.refl _ w).alloc (Nat.le_refl _) _⟩
  case round =>
    obtain ⟨j, s, hj, rfl, rfl, hs, hs8, hbk, hbw⟩ := hrel
    have c2 := hbk.cell 2
    simp only [docCells, List.getElem?_cons_zero, List.getElem?_cons_succ] at c2
    have HS := Lib.hid hs
    have HB := Lib.hid hbk
    have HBW := Lib.hid hbw
    have hs9 : (s : Int) ≤ 8388608 := by omega
    clear hs
    by_cases hlt : j < len
    · have hjm : (j : Int) < (len : Int) := by omega
      have hj2 : j < d.kids.length := by rw [← HLEN.out]; exact hlt
      obtain ⟨g, off, rfl, _, hg, kv2, h6, hk2⟩ := HKID.out j hj2
      have hst := nodesL_take_succ hj2
      have hle := nodesL_take_le d.kids (j + 1)
      have hsum : s + (d.kids[j]'hj2).nodes = m + 1 + nodesL (d.kids.take (j + 1)) := by have := HS.out; omega
      have hsum8 : s + (d.kids[j]'hj2).nodes ≤ 8388608 := by have := HND.out; have := HN.out; omega
      have h6' := h6.of (hbw.block _ hg)
      have g0 := h6'.kind
      have g1 := h6'.text
      have g2 := h6'.kids
      have g3 := h6'.brk
      have g4 := h6'.id
      have g5 := h6'.width
      have hkw : KV wr 0 wr.heap.size (d.kids[j]'hj2) kv2 := (hk2.below hbw (Nat.le_refl _)).wide (Nat.le_refl _) hbw.size
      have HC := Lib.hid (HMEM.out j hj2 kv2 s wr hkw hsum8)
      generalize d.kids[j]'hj2 = K at *
      have HSUM := Lib.hid hsum
      clear h6 h6' hk2 hbk hbw hkw hst hle hsum
      obtain ⟨s2, hs2⟩ : ∃ s2, s2 = s + K.nodes := ⟨_, rfl⟩
      rw [← hs2] at HC HSUM hsum8
      clear hs2
      go_wp2_with fail
      refine HC.out.mono ?_
      rintro e w2 ⟨rfl, hb2⟩
      have HB2 := Lib.hid (HBW.out.call hb2)
      have HBK2 := Lib.hid (HB.out.below hb2)
      clear hb2 c2 g0 g1 g2 g3 g4 g5
      go_wp2_with fail
      go_roundw
      case rel => exact ⟨j + 1, s2, by omega, by go_num, rfl, HSUM.out, hsum8, HBK2.out, HB2.out⟩
      case measure => simp [intOf]; omega
    · have hjm : (len : Int) ≤ (j : Int) := by omega
      have hfin : s = N := by
        have h1 := HS.out
        rw [List.take_of_length_le (by have := HLEN.out; omega)] at h1
        have h2 := HND.out
        have h3 := HN.out
        omega
      have HF := Lib.hid hfin
      clear hfin hbk hbw
      go_wp2_with fail
      go_ret
      exact ⟨ret_int (by rw [HF.out]), HBW.out⟩

theorem depthL_gt {ks : List Doc} {n : Nat} (h : ∀ j (hj : j < ks.length), (ks[j]).depth ≤ n) : depthL ks ≤ n := by
  induction ks with
  | nil => simp [depthL]
  | cons d ds ih =>
    have h0 := h 0 (by simp)
    have ih' := ih (fun j hj => h (j + 1) (by simpa using hj))
    simp only [List.getElem_cons_zero] at h0
    simp only [depthL]
    omega
def DeeIn (d : Doc) : Prop := ∀ (kv : Value) (left : Nat) (w : World), KV w 0 w.heap.size d kv → left ≤ 65536 → d.bulk ≤ 4194304 →
    Calls Tryd.prog 41 #[docV d kv, .int .i64 left] w fun e w' => e = .returned (.bool (decide (left < d.depth))) ∧ Below w.heap.size w w'

set_option maxHeartbeats 4000000 in
theorem deepIn_any (d : Doc) : DeeIn d := by
  refine Doc.ind (P := DeeIn) (fun d ih => ?_) d
  intro kv left w hk hl hb
  cases left with
  | zero =>
    have h0 : decide (0 < d.depth) = true := by simp [Doc.depth_eq]
    have H0 := Lib.hid h0
    clear h0
    unfold docV
    go_enter Tryd.func41, Tryd.ntmps41
    go_wp2_with fail
    go_ret
    exact ⟨by rw [H0.out]; rfl, (Below.refl _ w).alloc (Nat.le_refl _) _⟩
  | succ n =>
    obtain ⟨a, cap, rfl⟩ := hk.slice
    have hcap := hk.cap
    have hkid := fun j hj => hk.kid (j := j) hj
    have hdep : ∀ j (hj : j < d.kids.length), (d.kids[j]).depth ≤ depthL d.kids := fun j hj => depthL_mem (List.getElem_mem hj)
    have hmem : ∀ j (hj : j < d.kids.length), DeeIn d.kids[j] ∧ (d.kids[j]).bulk ≤ 4194304 := fun j hj => ⟨ih _ (List.getElem_mem hj), by have := Doc.kid_bulk (List.getElem_mem hj); omega⟩
    have hdl := @depthL_gt d.kids n
    have hlen : d.kids.length < 4194304 := by have := d.kids_len; omega
    have hbk := Blk.new w (docCells d (.slice a d.kids.length cap)) 24
    obtain ⟨len, hlen2⟩ : ∃ z, z = d.kids.length := ⟨_, rfl⟩
    simp only [← hlen2] at hlen hcap hbk
    have e1 : ((n : Int) + 1 == 0) = false := by simp; omega
    have hw1 : IntKind.i64.wrap ((n : Int) + 1 - 1) = (n : Int) := by rw [show (n : Int) + 1 - 1 = n by omega]; exact IntWalk.i64_in _ (by omega)
    have HDE := Lib.hid (d.depth_eq)
    have HKID := Lib.hid hkid
    have HDEP := Lib.hid hdep
    have HMEM := Lib.hid hmem
    have HDL := Lib.hid hdl
    have HBK := Lib.hid hbk
    have HLEN := Lib.hid hlen2
    clear hk hkid hdep hmem hdl hbk ih
    rw [← hlen2]
    clear hlen2
    unfold docV
    go_enter Tryd.func41, Tryd.ntmps41
    go_wp2_with fail
    go_loopw [5] (fun i wr => ∃ j : Nat, j ≤ len ∧ i = .int .i64 (j : Int) ∧ (∀ x (hx : x < d.kids.length), x < j → (d.kids[x]).depth ≤ n) ∧ Blk wr w.heap.size (docCells d (.slice a len cap)) 24 ∧ Below w.heap.size w wr) (fun i _ => len - (intOf i).toNat)
    case atStart =>
      exact ⟨0, Nat.zero_le _, rfl, fun x _ h => absurd h (Nat.not_lt_zero x), HBK.out, (Below.refl _ w).alloc (Nat.le_refl _) _⟩
    case round =>
      obtain ⟨j, hj, rfl, hall, hbk, hbw⟩ := hrel
      have c2 := hbk.cell 2
      simp only [docCells, List.getElem?_cons_zero, List.getElem?_cons_succ] at c2
      have HALL := Lib.hid hall
      have HB := Lib.hid hbk
      have HBW := Lib.hid hbw
      by_cases hlt : j < len
      · have hjm : (j : Int) < (len : Int) := by omega
        have hj2 : j < d.kids.length := by rw [← HLEN.out]; exact hlt
        obtain ⟨g, off, rfl, _, hg, kv2, h6, hk2⟩ := HKID.out j hj2
        obtain ⟨K, hK⟩ : ∃ K, K = d.kids[j]'hj2 := ⟨_, rfl⟩
        have h6' := h6.of (hbw.block _ hg)
        rw [← hK] at h6' hk2
        have g0 := h6'.kind
        have g1 := h6'.text
        have g2 := h6'.kids
        have g3 := h6'.brk
        have g4 := h6'.id
        have g5 := h6'.width
        have hkw : KV wr 0 wr.heap.size K kv2 := (hk2.below hbw (Nat.le_refl _)).wide (Nat.le_refl _) hbw.size
        have HC := Lib.hid ((HMEM.out j hj2).1 kv2 n wr (hK ▸ hkw) (by omega) (HMEM.out j hj2).2)
        rw [← hK] at HC
        have HKK := Lib.hid hK
        clear h6 h6' hk2 hK hall hbk hbw hkw
        go_wp2_with fail
        refine HC.out.mono ?_
        rintro e w2 ⟨rfl, hb2⟩
        have HB2 := Lib.hid (HBW.out.call hb2)
        have HBK2 := Lib.hid (HB.out.below hb2)
        clear hb2 c2 g0 g1 g2 g3 g4 g5
        by_cases hkd : K.depth ≤ n
        · rw [decide_eq_false (show ¬ n < K.depth by omega)]
          have HKD := Lib.hid hkd
          have hw2 : IntKind.i64.wrap ((j : Int) + 1) = (j : Int) + 1 := IntWalk.i64_in _ (by omega)
          clear hkd
          go_wp2_with fail
          go_roundw
          case rel =>
            repeat apply Exists.intro
            refine ⟨?_, rfl⟩
            refine ⟨j + 1, by omega, by go_num, fun x hx hxj => ?_, HBK2.out, HB2.out⟩
            rcases Nat.lt_or_ge x j with h | h
            · exact HALL.out x hx h
            · obtain rfl : x = j := by omega
              rw [← HKK.out]
              exact HKD.out
          case measure => simp [intOf]; omega
        · rw [decide_eq_true (show n < K.depth by omega)]
          have HKD := Lib.hid hkd
          clear hkd
          go_wp2_with fail
          go_ret
          have hd : decide (n + 1 < d.depth) = true := decide_eq_true (by
            have h1 := HDEP.out j hj2
            rw [← HKK.out] at h1
            have h2 := HDE.out
            have h3 := HKD.out
            omega)
          exact ⟨by rw [hd]; rfl, HB2.out⟩
      · have hjm : j = len := by omega
        subst hjm
        go_wp2_with fail
        go_ret
        have hd : decide (n + 1 < d.depth) = false := decide_eq_false (by
          have h1 := HDL.out (fun x hx => HALL.out x hx (by have := HLEN.out; omega))
          have h2 := HDE.out
          omega)
        exact ⟨by rw [hd]; rfl, HBW.out⟩
end Go.Proofs.YtaojlnibkajfbaaDoor
