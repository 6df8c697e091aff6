/- How deep a document is, as the laws ask it. -/
import Derived.Test.YthljgiimdcbfpaaDoorMDoc
namespace Go.Proofs.YthljgiimdcbfpaaDoor
open Go.RowKit
set_option maxRecDepth 100000
set_option linter.unusedVariables false
set_option linter.unusedSimpArgs false

theorem depthL_le {ks : List Doc} {n : Nat} (h : ∀ j (hj : j < ks.length), (ks[j]).depth ≤ n) : depthL ks ≤ n := by
  induction ks with
  | nil => simp [depthL]
  | cons d ds ih =>
    have h0 := h 0 (by simp)
    have ih' := ih (fun j hj => h (j + 1) (by simpa using hj))
    simp only [List.getElem_cons_zero] at h0
    simp only [depthL]
    omega
def ShalIn (d : Doc) : Prop := ∀ (kv : Value) (left : Nat) (w : World), KV w 0 w.heap.size d kv → left ≤ 65536 → d.bulk ≤ 4194304 →
    Calls Tryd.prog 34 #[docV d kv, .int .i64 left] w fun e w' => e = .returned (.bool (decide (d.depth ≤ left))) ∧ Below w.heap.size w w'

set_option maxHeartbeats 4000000 in
theorem shallowIn_any (d : Doc) : ShalIn d := by
  refine Doc.ind (P := ShalIn) (fun d ih => ?_) d
  intro kv left w hk hl hb
  cases left with
  | zero =>
    have h0 : decide (d.depth ≤ 0) = false := by simp [Doc.depth_eq]
    have H0 := Lib.hid h0
    clear h0
    unfold docV
    go_enter Tryd.func34, Tryd.ntmps34
    go_wp2_with fail
    go_ret
    exact ⟨by rw [H0.out]; rfl, (Below.refl _ w).alloc (Nat.le_refl _) _⟩
  | succ n =>
    obtain ⟨a, cap, rfl⟩ := hk.slice
    have hcap := hk.cap
    have hkid := fun j hj => hk.kid (j := j) hj
    have hdep : ∀ j (hj : j < d.kids.length), (d.kids[j]).depth ≤ depthL d.kids := fun j hj => depthL_mem (List.getElem_mem hj)
    have hmem : ∀ j (hj : j < d.kids.length), ShalIn d.kids[j] ∧ (d.kids[j]).bulk ≤ 4194304 := fun j hj => ⟨ih _ (List.getElem_mem hj), by have := Doc.kid_bulk (List.getElem_mem hj); omega⟩
    have hdl := @depthL_le d.kids n
    have hlen : d.kids.length < 4194304 := by have := d.kids_len; omega
    have hbk := Blk.new w (docCells d (.slice a d.kids.length cap)) 24
    obtain ⟨len, hlen2⟩ : ∃ z, z = d.kids.length := ⟨_, rfl⟩
    simp only [← hlen2] at hlen hcap hbk
    have e1 : ((n : Int) + 1 == 0) = false := by simp; omega
    have hw1 : IntKind.i64.wrap ((n : Int) + 1 - 1) = (n : Int) := by rw [show (n : Int) + 1 - 1 = n by omega]; exact IntWalk.i64_in _ (by omega)
    have HDE := Lib.hid (d.depth_eq)
    have HKID := Lib.hid hkid
    have HDEP := Lib.hid hdep
    have HMEM := Lib.hid hmem
    have HDL := Lib.hid hdl
    have HBK := Lib.hid hbk
    have HLEN := Lib.hid hlen2
    clear hk hkid hdep hmem hdl hbk ih
    rw [← hlen2]
    clear hlen2
    unfold docV
    go_enter Tryd.func34, Tryd.ntmps34
    go_wp2_with fail
    go_loopw [5] (fun i wr => ∃ j : Nat, j ≤ len ∧ i = .int .i64 (j : Int) ∧ (∀ x (hx : x < d.kids.length), x < j → (d.kids[x]).depth ≤ n) ∧ Blk wr w.heap.size (docCells d (.slice a len cap)) 24 ∧ Below w.heap.size w wr) (fun i _ => len - (intOf i).toNat)
    case atStart =>
      exact ⟨0, Nat.zero_le _, rfl, fun x _ h => absurd h (Nat.not_lt_zero x), HBK.out, (Below.refl _ w).alloc (Nat.le_refl _) _⟩
    case round =>
      obtain ⟨j, hj, rfl, hall, hbk, hbw⟩ := hrel
      have c2 := hbk.cell 2
      simp only [docCells, List.getElem?_cons_zero, List.getElem?_cons_succ] at c2
      have HALL := Lib.hid hall
      have HB := Lib.hid hbk
      have HBW := Lib.hid hbw
      by_cases hlt : j < len
      · have hjm : (j : Int) < (len : Int) := by omega
        have hj2 : j < d.kids.length := by rw [← HLEN.out]; exact hlt
        obtain ⟨g, off, rfl, _, hg, kv2, h6, hk2⟩ := HKID.out j hj2
        obtain ⟨K, hK⟩ : ∃ K, K = d.kids[j]'hj2 := ⟨_, rfl⟩
        have h6' := h6.of (hbw.block _ hg)
        rw [← hK] at h6' hk2
        have g0 := h6'.kind
        have g1 := h6'.text
        have g2 := h6'.kids
        have g3 := h6'.brk
        have g4 := h6'.id
        have g5 := h6'.width
        have hkw : KV wr 0 wr.heap.size K kv2 := (hk2.below hbw (Nat.le_refl _)).wide (Nat.le_refl _) hbw.size
        have HC := Lib.hid ((HMEM.out j hj2).1 kv2 n wr (hK ▸ hkw) (by omega) (HMEM.out j hj2).2)
        rw [← hK] at HC
        have HKK := Lib.hid hK
        clear h6 h6' hk2 hK hall hbk hbw hkw
        go_wp2_with fail
        refine HC.out.mono ?_
        rintro e w2 ⟨rfl, hb2⟩
        have HB2 := Lib.hid (HBW.out.call hb2)
        have HBK2 := Lib.hid (HB.out.below hb2)
        clear hb2 c2 g0 g1 g2 g3 g4 g5
        by_cases hkd : K.depth ≤ n
        · rw [decide_eq_true hkd]
          have HKD := Lib.hid hkd
          have hw2 : IntKind.i64.wrap ((j : Int) + 1) = (j : Int) + 1 := IntWalk.i64_in _ (by omega)
          clear hkd
          go_wp2_with fail
          refine ⟨⟨_, .int .i64 ((j + 1 : Nat) : Int), _, _, _, _, _, _, _, _, _, _, _, _, _, _, _, _, ⟨j + 1, by omega, rfl, fun x hx hxj => ?_, HBK2.out, HB2.out⟩, rfl⟩, ?_⟩
          · rcases Nat.lt_or_ge x j with h | h
            · exact HALL.out x hx h
            · obtain rfl : x = j := by omega
              rw [← HKK.out]
              exact HKD.out
          · simp [intOf]
            omega
        · rw [decide_eq_false hkd]
          have HKD := Lib.hid hkd
          clear hkd
          go_wp2_with fail
          go_ret
          have hd : decide (d.depth ≤ n + 1) = false := decide_eq_false (by
            have h1 := HDEP.out j hj2
            rw [← HKK.out] at h1
            have h2 := HDE.out
            have h3 := HKD.out
            omega)
          exact ⟨by rw [hd]; rfl, HB2.out⟩
      · have hjm : j = len := by omega
        subst hjm
        go_wp2_with fail
        go_ret
        have hd : decide (d.depth ≤ n + 1) = true := decide_eq_true (by
          have h1 := HDL.out (fun x hx => HALL.out x hx (by have := HLEN.out; omega))
          have h2 := HDE.out
          omega)
        exact ⟨by rw [hd]; rfl, HBW.out⟩
/-- ShallowDoc. -/
theorem shallow_any (d : Doc) (kv : Value) (w : World) (hk : KV w 0 w.heap.size d kv) (hb : d.bulk ≤ 4194304) :
    Calls Tryd.prog 14 #[docV d kv] w fun e w' => e = .returned (.bool (decide (d.depth ≤ 65536))) ∧ Below w.heap.size w w' := by
  have hal := (Below.refl w.heap.size w).alloc (Nat.le_refl _) (.cells #[.int .i64 d.kind, .string d.text, kv, .bool d.brk, .int .i64 d.id, .int .i64 d.width] 24)
  have HL := Lib.hid (shallowIn_any d kv 65536 _ ((hk.below hal (Nat.le_refl _)).wide (Nat.le_refl _) (by simp)) (Nat.le_refl _) hb)
  have HA := Lib.hid hal
  clear hal hk
  unfold docV
  go_enter Tryd.func14, Tryd.ntmps14
  go_wp2_with fail
  refine HL.out.mono ?_
  rintro e w1 ⟨rfl, hb1⟩
  have HB1 := Lib.hid (HA.out.call hb1)
  clear hb1
  go_wp2_with fail
  go_ret
  exact ⟨rfl, HB1.out⟩
end Go.Proofs.YthljgiimdcbfpaaDoor
