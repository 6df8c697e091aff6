/- The walks of package str's Quote and of its closure. -/
import Derived.Test.YtcjnlbelgmcpeaaDoorStrUnits
import Derived.Test.YtcjnlbelgmcpeaaDoorStrQuotePlain
import Derived.Test.YtcjnlbelgmcpeaaDoorOwnBytes
namespace Go.Proofs.YtcjnlbelgmcpeaaDoor
open Go.RowKit
theorem wp_world_q {P : Program} {c : Code} {Q : Exit → Act → World → Prop} {a : Act} {w : World} (S : World → Prop) (hS : S w) (h : ∀ W, S W → c.wp P Q a W) : c.wp P Q a w := h w hS
/-- A block of four cells. -/
theorem Blk.four' {W : World} {g : Nat} {a b c d : Value} {e : TypeId} (h : Blk W g [a, b, c, d] e) :
    W.cell? ⟨g, 0, none⟩ = some a ∧ W.cell? ⟨g, 1, none⟩ = some b ∧ W.cell? ⟨g, 2, none⟩ = some c ∧ W.cell? ⟨g, 3, none⟩ = some d ∧ W.frozen? ⟨g, 0, none⟩ = false ∧ W.frozen? ⟨g, 1, none⟩ = false ∧ W.frozen? ⟨g, 2, none⟩ = false ∧ W.frozen? ⟨g, 3, none⟩ = false :=
  ⟨h.cell 0, h.cell 1, h.cell 2, h.cell 3, h.frozen 0, h.frozen 1, h.frozen 2, h.frozen 3⟩
set_option maxRecDepth 100000
set_option linter.unusedVariables false
set_option linter.unusedSimpArgs false

set_option maxHeartbeats 8000000 in
theorem quoted_any (s : ByteArray) (f t : Nat) (e : Bool) (v : Int) (S : Nat) (w : World) (hs : s.size ≤ 4194304) (h1 : f < t) (h2 : t ≤ s.size) (hS : w.cell? ⟨S, 0, none⟩ = some (.string s)) :
    Calls Tryd.prog 22 #[.agg #[.int .i64 (f : Int), .int .i64 (t : Int), .bool e, .int .i64 v], .pointer (some ⟨S, 0, none⟩)] w fun e' w' => e' = .returned (.bool (isQ s ⟨f, t, e, v⟩)) ∧ Below w.heap.size w w' := by
  have hin : t - 1 < s.size := by omega
  have hSl := World.block_lt_of_cell? w _ hS
  simp only at hSl
  have HQ : Hid (isQ s ⟨f, t, e, v⟩ = (((s[t - 1]'hin).toNat == 39 || (s[t - 1]'hin).toNat == 34) && decide (t ≤ f + 2) && (e || t == f + 1))) := Lib.hid (by unfold isQ chQ; simp only; rw [← byt_eq s (t - 1) hin])
  have hi : ((t : Int) - 1) = ((t - 1 : Nat) : Int) := by omega
  have ht : ((t : Int) - 1).toNat = t - 1 := by omega
  by_cases c39 : (s[t - 1]'hin).toNat = 39 ∨ (s[t - 1]'hin).toNat = 34
  · by_cases c2 : t ≤ f + 2
    · have g2 : decide ((t : Int) - f ≤ 2) = true := by simp; omega
      have HQ2 : Hid (isQ s ⟨f, t, e, v⟩ = (e || t == f + 1)) := Lib.hid (by rw [HQ.out]; rcases c39 with h | h <;> simp [h, c2])
      cases e
      · by_cases c1 : t = f + 1
        · have g3 : ((t : Int) - f == 1) = true := by rw [beq_iff_eq]; omega
          have HQ3 : Hid (isQ s ⟨f, t, false, v⟩ = true) := Lib.hid (by rw [HQ2.out]; simp [c1])
          clear c1 c2
          rcases c39 with c | c
          all_goals
            first
              | have g1 : ((s[t - 1]'hin).toNat : Int) = 39 := by omega
              | have g1 : ((s[t - 1]'hin).toNat : Int) = 34 := by omega
            clear c
            go_enter Tryd.func22, Tryd.ntmps22
            go_wp2_with fail
            go_ret
            exact ⟨ret_bool HQ3.out.symm, (Below.refl _ w).alloc (Nat.le_refl _) _⟩
        · have g3 : ((t : Int) - f == 1) = false := by rw [beq_eq_false_iff_ne]; omega
          have HQ3 : Hid (isQ s ⟨f, t, false, v⟩ = false) := Lib.hid (by rw [HQ2.out]; simp [c1])
          clear c1 c2
          rcases c39 with c | c
          all_goals
            first
              | have g1 : ((s[t - 1]'hin).toNat : Int) = 39 := by omega
              | have g1 : ((s[t - 1]'hin).toNat : Int) = 34 := by omega
            clear c
            go_enter Tryd.func22, Tryd.ntmps22
            go_wp2_with fail
            go_ret
            exact ⟨ret_bool HQ3.out.symm, (Below.refl _ w).alloc (Nat.le_refl _) _⟩
      · have HQ3 : Hid (isQ s ⟨f, t, true, v⟩ = true) := Lib.hid (by rw [HQ2.out]; rfl)
        clear c2
        rcases c39 with c | c
        all_goals
          first
            | have g1 : ((s[t - 1]'hin).toNat : Int) = 39 := by omega
            | have g1 : ((s[t - 1]'hin).toNat : Int) = 34 := by omega
          clear c
          go_enter Tryd.func22, Tryd.ntmps22
          go_wp2_with fail
          go_ret
          exact ⟨ret_bool HQ3.out.symm, (Below.refl _ w).alloc (Nat.le_refl _) _⟩
    · have g2 : decide ((t : Int) - f ≤ 2) = false := by simp; omega
      have HQ3 : Hid (isQ s ⟨f, t, e, v⟩ = false) := Lib.hid (by rw [HQ.out]; simp [c2])
      clear c2
      rcases c39 with c | c
      all_goals
        first
          | have g1 : ((s[t - 1]'hin).toNat : Int) = 39 := by omega
          | have g1 : ((s[t - 1]'hin).toNat : Int) = 34 := by omega
        clear c
        go_enter Tryd.func22, Tryd.ntmps22
        go_wp2_with fail
        go_ret
        exact ⟨ret_bool HQ3.out.symm, (Below.refl _ w).alloc (Nat.le_refl _) _⟩
  · have g1 : (((s[t - 1]'hin).toNat : Int) == 39) = false := by rw [beq_eq_false_iff_ne]; omega
    have g2 : (((s[t - 1]'hin).toNat : Int) == 34) = false := by rw [beq_eq_false_iff_ne]; omega
    have HQ3 : Hid (isQ s ⟨f, t, e, v⟩ = false) := Lib.hid (by
      rw [HQ.out]
      have h1 : ((s[t - 1]'hin).toNat == 39) = false := by rw [beq_eq_false_iff_ne]; omega
      have h2 : ((s[t - 1]'hin).toNat == 34) = false := by rw [beq_eq_false_iff_ne]; omega
      rw [h1, h2]
      rfl)
    clear c39
    go_enter Tryd.func22, Tryd.ntmps22
    go_wp2_with fail
    go_ret
    exact ⟨ret_bool HQ3.out.symm, (Below.refl _ w).alloc (Nat.le_refl _) _⟩

/-- The counts' array: two of its cells are ever written. -/
def manyCells (a b : Nat) : List Value := (List.range 256).map fun j => Value.int .i64 (if j = 39 then (a : Int) else if j = 34 then (b : Int) else 0)
theorem many_zero (w : World) : (zeroValue 57).run Tryd.prog w = .ok (.agg (manyCells 0 0).toArray) w := by kernel_rfl
theorem many_39 (a b : Nat) : (manyCells a b)[39]? = some (.int .i64 (a : Int)) := by simp [manyCells]
theorem many_34 (a b : Nat) : (manyCells a b)[34]? = some (.int .i64 (b : Int)) := by simp [manyCells]
theorem many_set39 (a b : Nat) : (manyCells a b).set 39 (.int .i64 ((a : Int) + 1)) = manyCells (a + 1) b := by
  apply List.ext_getElem?
  intro j
  rw [List.getElem?_set]
  by_cases h : 39 = j
  · subst h
    rw [if_pos rfl, many_39]
    simp [manyCells]
  · rw [if_neg h]
    have h' : ¬ j = 39 := fun e => h e.symm
    by_cases hj : j < 256
    · simp [manyCells, hj, h']
    · simp [manyCells, hj]
theorem many_set34 (a b : Nat) : (manyCells a b).set 34 (.int .i64 ((b : Int) + 1)) = manyCells a (b + 1) := by
  apply List.ext_getElem?
  intro j
  rw [List.getElem?_set]
  by_cases h : 34 = j
  · subst h
    rw [if_pos rfl, many_34]
    simp [manyCells]
  · rw [if_neg h]
    have h' : ¬ j = 34 := fun e => h e.symm
    by_cases hj : j < 256
    · simp [manyCells, hj, h']
    · simp [manyCells, hj]
theorem isQ_ch {s : ByteArray} {p : Pt} (h : isQ s p = true) : chQ s p = 39 ∨ chQ s p = 34 := by
  unfold isQ at h
  simp only [Bool.and_eq_true, Bool.or_eq_true, beq_iff_eq] at h
  exact h.1.1
theorem cnt_no {s : ByteArray} {p : Pt} (c : Nat) (ps : List Pt) (h : isQ s p = false) : cntQ s c (ps ++ [p]) = cntQ s c ps := by rw [cntQ_snoc, h]; rfl
theorem cnt_yes {s : ByteArray} {p : Pt} {c : Nat} (ps : List Pt) (h : isQ s p = true) (hc : chQ s p = c) : cntQ s c (ps ++ [p]) = cntQ s c ps + 1 := by rw [cntQ_snoc, h, hc]; simp
theorem cnt_other {s : ByteArray} {p : Pt} {c d : Nat} (ps : List Pt) (hc : chQ s p = c) (hd : c ≠ d) : cntQ s d (ps ++ [p]) = cntQ s d ps := by
  rw [cntQ_snoc, hc]
  have : (c == d) = false := by simpa using hd
  rw [this]
  simp
theorem byteE : ElemOf Tryd.prog 58 5 1 1 := .mk' (.int .u8 0) Tryd.underlying58 (by kernel_rfl) rfl (by decide)
theorem byteE2 : ByteElem Tryd.prog 58 5 := .of byteE (by kernel_rfl)

theorem bytes_one (n : Nat) (h : n < 256) : [Value.int .u8 (n : Int)] = Lib.byteCells [n.toUInt8] := by
  have e : n.toUInt8.toNat = n := by
    show (UInt8.ofNat n).toNat = n
    rw [UInt8.toNat_ofNat']
    omega
  simp [Lib.byteCells, e]
theorem bytes_two (n : Nat) (h : n < 256) : [Value.int .u8 92, Value.int .u8 (n : Int)] = Lib.byteCells [92, n.toUInt8] := by
  have := bytes_one n h
  show [Value.int .u8 92] ++ [Value.int .u8 (n : Int)] = Lib.byteCells ([92] ++ [n.toUInt8])
  rw [bcells_app, this]
  rfl
theorem bytes_snoc {W : World} {B m : Nat} {v : Value} {q : UInt8} {l l' d : List UInt8} {cs : List Value} (h : W.ownsRow B 5 1 v (1 + l.length + m) (Lib.byteCells (q :: l) ++ cs)) (hl : l' = l ++ d) (hc : cs = Lib.byteCells d) (hm : m = d.length) :
    W.ownsRow B 5 1 v (1 + l'.length) (Lib.byteCells (q :: l')) := by
  subst hl hc hm
  rw [← bcells_app] at h
  rw [List.length_append, ← Nat.add_assoc]
  exact h
theorem bytes_str {W : World} {B m : Nat} {v : Value} {q : UInt8} {l l' d : List UInt8} (h : W.ownsRow B 5 1 v (1 + l.length + m) (Lib.byteCells (q :: l ++ d))) (hl : l' = l ++ d) (hm : m = d.length) :
    W.ownsRow B 5 1 v (1 + l'.length) (Lib.byteCells (q :: l')) := by
  subst hl hm
  rw [List.length_append, ← Nat.add_assoc]
  exact h
theorem bytes_end {W : World} {B n : Nat} {v : Value} {l : List UInt8} (h : W.ownsRow B 5 1 v (1 + l.length + 1) (Lib.byteCells (n.toUInt8 :: l) ++ [.int .u8 (n : Int)])) (hn : n < 256) :
    W.ownsRow B 5 1 v (1 + l.length + 1) (Lib.byteCells (n.toUInt8 :: (l ++ [n.toUInt8]))) := by
  rw [bytes_one n hn, ← bcells_app] at h
  exact h

set_option maxHeartbeats 16000000 in
theorem quote_try (s : ByteArray) (single : Bool) (w : World) (hs : s.size ≤ 2097200) (hT : Tabs w) (ps : List Pt) (hp : partsB s = .ok ps) :
    Calls Tryd.prog 18 #[.string s, .bool single] w fun e w' => e = .returned (.tuple #[.string ⟨(quoteB s ps single).toArray⟩, .int .i64 0]) ∧ Below w.heap.size w w' := by
  have HC := Lib.hid (fun (o : Obj) => parts_any s (w.alloc o) (by omega) (hT.below ((Below.refl _ w).alloc (Nat.le_refl _) o)))
  have HOK := Lib.hid (partsB_ok hp)
  have HP := Lib.hid hp
  have hmz := many_zero
  clear hp hT
  go_enter Tryd.func18, Tryd.ntmps18
  go_wp2_with (go_at_call 20; refine (HC.out _).mono ?_; rintro e w1 ⟨he, hb1⟩; unfold PartsOut at he; rw [HP.out] at he; obtain ⟨v, rfl, ho, hl⟩ := he; obtain ⟨a, cap, rfl, hv⟩ := own_parts ho; have HO := Lib.hid ho; have HV := Lib.hid hv; have HSB : Hid (Blk w1 w.heap.size [.string s] 9) := Lib.hid (Blk.below (Blk.new w _ _) hb1); have hz1 := hb1.size; simp at hz1; have HB1 := Lib.hid (((Below.refl _ w).alloc (Nat.le_refl _) _).trans (hb1.mono (by simp))); clear ho hv hb1)
  clear hmz
  refine wp_world_q (fun W => Blk W w1.heap.size (manyCells 0 0) 57 ∧ Below w1.heap.size w1 W) ⟨Blk.new _ _ _, (Below.refl _ _).alloc (Nat.le_refl _) _⟩ ?_
  rintro W ⟨hM0, hbW⟩
  have HM0 := Lib.hid hM0
  clear hM0
  go_wp2_with fail
  go_loopw [29] (fun i wr => ∃ k : Nat, k ≤ ps.length ∧ i = .int .i64 (k : Int) ∧ Blk wr w1.heap.size (manyCells (cntQ s 39 (ps.take k)) (cntQ s 34 (ps.take k))) 57 ∧ Below w1.heap.size w1 wr) (fun i _ => ps.length - (intOf i).toNat)
  case atStart => exact ⟨0, by omega, rfl, HM0.out, hbW⟩
  case round =>
    obtain ⟨k, hk, rfl, hM, hbr⟩ := hrel
    clear hbW
    have HM := Lib.hid hM
    have hzr := hbr.size
    clear hM
    have hsb := Blk.below HSB.out hbr
    have HSR := Lib.hid hsb
    have hc1 := cntQ_len s 39 (ps.take k)
    have hc2 := cntQ_len s 34 (ps.take k)
    have htl : (ps.take k).length ≤ k := List.length_take_le _ _
    by_cases hlt : k < ps.length
    · obtain ⟨g, rfl, hg1, hg2⟩ := HV.out (by omega)
      obtain ⟨c0, c1, c2, c3⟩ := own_part_cells (own_below HO.out hbr) k hlt
      have hok := HOK.out ps[k] (List.getElem_mem hlt)
      obtain ⟨ok1, ok2, ok3, ok4, ok5⟩ := hok
      have HT := Lib.hid (take_succ_of ps k hlt)
      generalize ps[k] = p at *
      obtain ⟨pf, pt, pe, pv⟩ := p
      simp only at c0 c1 c2 c3 ok1 ok2 ok3 ok4 ok5
      have hin : pt - 1 < s.size := by omega
      have HCH : Hid (chQ s ⟨pf, pt, pe, pv⟩ = (s[pt - 1]'hin).toNat) := Lib.hid (by unfold chQ; rw [byt_eq])
      have HQ := Lib.hid (fun Wc hS => quoted_any s pf pt pe pv w.heap.size Wc (by omega) ok2 ok3 hS)
      have hpi : ((pt : Int) - 1).toNat = pt - 1 := by omega
      by_cases hq : isQ s ⟨pf, pt, pe, pv⟩ = true
      · have hch := isQ_ch hq
        have HQ0 := Lib.hid hq
        rw [hq] at HQ
        rw [HCH.out] at hch
        clear hq hsb
        rcases hch with hch | hch
        · have g1 : ((s[pt - 1]'hin).toNat : Int) = 39 := by omega
          have HCT := Lib.hid (show chQ s ⟨pf, pt, pe, pv⟩ = 39 by rw [HCH.out]; exact hch)
          clear hch
          go_wp2_with (
            go_at_call 22
            refine Calls.mono (HQ.out _ ((HSR.out.alloc _).cell 0)) ?_
            rintro e w2 ⟨rfl, hb2⟩
            have hP2 : Blk w2 wr.heap.size _ _ := Blk.below (Blk.new wr _ _) hb2
            have hM2 := Blk.below (HM.out.alloc _) hb2
            have hS2 := Blk.below (HSR.out.alloc _) hb2
            obtain ⟨p0, p1, p2, p3, y0, y1, y2, y3⟩ := hP2.four'
            have s0 := hS2.cell 0
            have m0 := (hM2.cell 39).trans (many_39 _ _)
            have m1 := hM2.frozen 39
            simp at s0
            have HM2 := Lib.hid hM2
            have HB2 := Lib.hid (((hbr.alloc hbr.size _).call hb2))
            clear hP2 hM2 hS2 hb2)
          go_roundw
          case rel => exact ⟨k + 1, by omega, by go_num, by rw [HT.out, cnt_yes _ HQ0.out HCT.out, cnt_other _ HCT.out (by decide), ← many_set39]; exact HM2.out.set 39 _, HB2.out.setCell (Nat.le_refl _) _⟩
          case measure => simp [intOf]; omega
        · have g1 : ((s[pt - 1]'hin).toNat : Int) = 34 := by omega
          have HCT := Lib.hid (show chQ s ⟨pf, pt, pe, pv⟩ = 34 by rw [HCH.out]; exact hch)
          clear hch
          go_wp2_with (
            go_at_call 22
            refine Calls.mono (HQ.out _ ((HSR.out.alloc _).cell 0)) ?_
            rintro e w2 ⟨rfl, hb2⟩
            have hP2 : Blk w2 wr.heap.size _ _ := Blk.below (Blk.new wr _ _) hb2
            have hM2 := Blk.below (HM.out.alloc _) hb2
            have hS2 := Blk.below (HSR.out.alloc _) hb2
            obtain ⟨p0, p1, p2, p3, y0, y1, y2, y3⟩ := hP2.four'
            have s0 := hS2.cell 0
            have m0 := (hM2.cell 34).trans (many_34 _ _)
            have m1 := hM2.frozen 34
            simp at s0
            have HM2 := Lib.hid hM2
            have HB2 := Lib.hid (((hbr.alloc hbr.size _).call hb2))
            clear hP2 hM2 hS2 hb2)
          go_roundw
          case rel => exact ⟨k + 1, by omega, by go_num, by rw [HT.out, cnt_yes _ HQ0.out HCT.out, cnt_other _ HCT.out (by decide), ← many_set34]; exact HM2.out.set 34 _, HB2.out.setCell (Nat.le_refl _) _⟩
          case measure => simp [intOf]; omega
      · have hq' : isQ s ⟨pf, pt, pe, pv⟩ = false := by simpa using hq
        have HQ0 := Lib.hid hq'
        rw [hq'] at HQ
        clear hq hq' hsb
        go_wp2_with (
          go_at_call 22
          refine Calls.mono (HQ.out _ ((HSR.out.alloc _).cell 0)) ?_
          rintro e w2 ⟨rfl, hb2⟩
          have HM2 := Lib.hid (Blk.below (HM.out.alloc _) hb2)
          have HB2 := Lib.hid (((hbr.alloc hbr.size _).call hb2))
          clear hb2)
        go_roundw
        case rel => exact ⟨k + 1, by omega, by go_num, by rw [HT.out, cnt_no _ _ HQ0.out, cnt_no _ _ HQ0.out]; exact HM2.out, HB2.out⟩
        case measure => simp [intOf]; omega
    · have hke : ps.take k = ps := List.take_of_length_le (by omega)
      rw [hke] at HM hc1 hc2
      have m39 := (HM.out.cell 39).trans (many_39 _ _)
      have m34 := (HM.out.cell 34).trans (many_34 _ _)
      have HPK : Hid (pickQ s ps single = if single then (if cntQ s 34 ps < cntQ s 39 ps then 34 else 39) else (if cntQ s 39 ps < cntQ s 34 ps then 39 else 34)) := Lib.hid rfl
      generalize cntQ s 39 ps = n39 at *
      generalize cntQ s 34 ps = n34 at *
      clear hke hsb htl
      clear hc1 hc2
      cases single
      · by_cases hcmp : n39 < n34
        · have hd : decide ((n39 : Int) < (n34 : Int)) = true := by simp; omega
          have HPQ : Hid (pickQ s ps false = 39) := Lib.hid (by rw [HPK.out]; simp [hcmp])
          clear HPK
          go_wp2_with fail
          go_quiet (fail)
          go_wp2_with fail
          refine wp_world_q (fun W => W.ownsRow w1.heap.size 5 1 (.slice (some ⟨wr.heap.size, 0, none⟩) 1 1) 1 (Lib.byteCells [Nat.toUInt8 39]) ∧ Below w1.heap.size w1 W) ⟨by exact World.ownsRow_lit (base := w1.heap.size) (e := 5) (size := 1) (wr.drewN nq) #[.int .u8 39] 1 hbr.size (by unfold maxLen; omega) rfl, (below_drewN hbr nq).alloc hbr.size _⟩ ?_
          rintro W ⟨hOW, hbW⟩
          have HQ9 : Hid (∃ Q : Nat, Q = 39) := Lib.hid ⟨_, rfl⟩
          obtain ⟨Q, hQ⟩ := HQ9.out
          have HQL : Hid (Value.int .u8 39 = Value.int .u8 (Q : Int)) := Lib.hid (by rw [hQ]; rfl)
          have HQr : Hid (Q = 39 ∨ Q = 34) := Lib.hid (by omega)
          rw [← hQ] at hOW HPQ
          clear hQ
          have HOW := Lib.hid hOW
          have hQb : Q < 256 := by have := HQr.out; omega
          have HB9 := Lib.hid (fun k => bodyQ_len s Q 2097210 (by omega) (ps.take k) (fun p hp => HOK.out p (List.mem_of_mem_take hp)))
          clear hOW
          rw [HQL.out]
          go_loopw [15, 61] (fun out i wr => ∃ k : Nat, k ≤ ps.length ∧ i = .int .i64 (k : Int) ∧ wr.ownsRow w1.heap.size 5 1 out (1 + (bodyQ s Q (ps.take k)).length) (Lib.byteCells (Q.toUInt8 :: bodyQ s Q (ps.take k))) ∧ Below w1.heap.size w1 wr) (fun _ i _ => ps.length - (intOf i).toNat)
          case atStart => exact ⟨0, by omega, rfl, HOW.out, hbW⟩
          case round =>
            obtain ⟨k', hk', rfl, hown, hbv⟩ := hrel
            clear hbW
            have HOW2 := Lib.hid hown
            clear hown HOW
            have hlen := HB9.out k'
            have htl : (ps.take k').length ≤ k' := List.length_take_le _ _
            have hlen2 : (bodyQ s Q (ps.take k')).length ≤ k' * 2097210 := Nat.le_trans hlen (Nat.mul_le_mul_right _ htl)
            clear hlen
            by_cases hlt' : k' < ps.length
            · obtain ⟨g, rfl, hg1, hg2⟩ := HV.out (by omega)
              obtain ⟨c0, c1, c2, c3⟩ := own_part_cells (own_below HO.out hbv) k' hlt'
              have hok := HOK.out ps[k'] (List.getElem_mem hlt')
              obtain ⟨ok1, ok2, ok3, ok4, ok5⟩ := hok
              have HT := Lib.hid (take_succ_of ps k' hlt')
              have HSR2 := Lib.hid (Blk.below HSB.out hbv)
              generalize ps[k'] = p at *
              obtain ⟨pf, pt, pe, pv⟩ := p
              simp only at c0 c1 c2 c3 ok1 ok2 ok3 ok4 ok5
              have hin : pt - 1 < s.size := by omega
              have HCH : Hid (chQ s ⟨pf, pt, pe, pv⟩ = (s[pt - 1]'hin).toNat) := Lib.hid (by unfold chQ; rw [byt_eq])
              have HQ := Lib.hid (fun Wc hS => quoted_any s pf pt pe pv w.heap.size Wc (by omega) ok2 ok3 hS)
              have hpi : ((pt : Int) - 1).toNat = pt - 1 := by omega
              have hzv := hbv.size
              by_cases hq : isQ s ⟨pf, pt, pe, pv⟩ = true
              · rw [hq] at HQ
                have HQ0 := Lib.hid hq
                clear hq
                by_cases hcq : (s[pt - 1]'hin).toNat = Q
                · have HPC : Hid (pieceQ s Q ⟨pf, pt, pe, pv⟩ = [92, Q.toUInt8]) := Lib.hid (by unfold pieceQ; rw [if_pos HQ0.out, if_pos (by rw [HCH.out]; exact hcq)])
                  have g1 : ((s[pt - 1]'hin).toNat : Int) = (Q : Int) := by omega
                  clear hcq
                  go_wp2_with (first
                    | (go_at_call 22
                       refine Calls.mono (HQ.out _ ((HSR2.out.alloc _).cell 0)) ?_
                       rintro e w2 ⟨rfl, hb2⟩
                       have hP2 : Blk w2 wr.heap.size _ _ := Blk.below (Blk.new wr _ _) hb2
                       have hS2 := Blk.below (HSR2.out.alloc _) hb2
                       obtain ⟨p0, p1, p2, p3, y0, y1, y2, y3⟩ := hP2.four'
                       have s0 := hS2.cell 0
                       simp at s0
                       have HB2 := Lib.hid (((Below.refl wr.heap.size wr).alloc (Nat.le_refl _) _).call hb2)
                       clear hP2 hS2 hb2)
                    | (at_builtin
                       refine wpList_append_blk rfl (.tmp 94) (.tmp 96) _ _ 1 1 rfl byteE w1 wr w1.heap.size hbv hbv.size (HB2.out.alloc HB2.out.size _) u15 (1 + (bodyQ s Q (ps.take k')).length) (Lib.byteCells (Q.toUInt8 :: bodyQ s Q (ps.take k'))) rfl HOW2.out _ 2 [.int .u8 92, .int .u8 (Q : Int)] rfl (Blk.new' [.int .u8 92, .int .u8 (Q : Int)] _ (by simp)) rfl (fun u hu => by simp at hu; rcases hu with rfl | rfl <;> rfl) (by unfold maxLen; omega) (by omega) ?_
                       intro v' W' ho' hb' hg' hlt9
                       have HO2 := Lib.hid ho'
                       clear ho'))
                  go_roundw
                  case rel => exact ⟨k' + 1, by omega, by go_num, bytes_snoc HO2.out (by rw [HT.out, bodyQ_snoc, HPC.out]) (by rw [bytes_two Q hQb]) rfl, hb'⟩
                  case measure => simp [intOf]; omega
                · have HPC : Hid (pieceQ s Q ⟨pf, pt, pe, pv⟩ = [(s[pt - 1]'hin).toNat.toUInt8]) := Lib.hid (by unfold pieceQ; rw [if_pos HQ0.out, if_neg (by rw [HCH.out]; exact hcq), HCH.out])
                  have g1 : (((s[pt - 1]'hin).toNat : Int) == (Q : Int)) = false := by rw [beq_eq_false_iff_ne]; omega
                  have hcb := (s[pt - 1]'hin).toNat_lt
                  clear hcq
                  go_wp2_with (first
                    | (go_at_call 22
                       refine Calls.mono (HQ.out _ ((HSR2.out.alloc _).cell 0)) ?_
                       rintro e w2 ⟨rfl, hb2⟩
                       have hP2 : Blk w2 wr.heap.size _ _ := Blk.below (Blk.new wr _ _) hb2
                       have hS2 := Blk.below (HSR2.out.alloc _) hb2
                       obtain ⟨p0, p1, p2, p3, y0, y1, y2, y3⟩ := hP2.four'
                       have s0 := hS2.cell 0
                       simp at s0
                       have HB2 := Lib.hid (((Below.refl wr.heap.size wr).alloc (Nat.le_refl _) _).call hb2)
                       clear hP2 hS2 hb2)
                    | (at_builtin
                       refine wpList_append_blk rfl (.tmp 65) (.tmp 71) _ _ 1 1 rfl byteE w1 wr w1.heap.size hbv hbv.size (HB2.out.alloc HB2.out.size _) u15 (1 + (bodyQ s Q (ps.take k')).length) (Lib.byteCells (Q.toUInt8 :: bodyQ s Q (ps.take k'))) rfl HOW2.out _ 1 [.int .u8 ((s[pt - 1]'hin).toNat : Int)] rfl (Blk.new' [.int .u8 ((s[pt - 1]'hin).toNat : Int)] _ (by simp)) rfl (fun u hu => by simp at hu; subst hu; rfl) (by unfold maxLen; omega) (by omega) ?_
                       intro v' W' ho' hb' hg' hlt9
                       have HO2 := Lib.hid ho'
                       clear ho'))
                  go_roundw
                  case rel => exact ⟨k' + 1, by omega, by go_num, bytes_snoc HO2.out (by rw [HT.out, bodyQ_snoc, HPC.out]) (by rw [bytes_one _ hcb]) rfl, hb'⟩
                  case measure => simp [intOf]; omega
              · have hq' : isQ s ⟨pf, pt, pe, pv⟩ = false := by simpa using hq
                have HPC : Hid (pieceQ s Q ⟨pf, pt, pe, pv⟩ = (s.extract pf pt).data.toList) := Lib.hid (by unfold pieceQ; rw [if_neg hq, cutB_eq s pf pt ok3])
                have HSZ : Hid ((s.extract pf pt).size = (s.extract pf pt).data.toList.length) := Lib.hid (size_list _)
                have hsz : (s.extract pf pt).size ≤ s.size := by rw [HSZ.out, cutB_eq s pf pt ok3, cutB_len s pf pt ok3]; omega
                rw [hq'] at HQ
                clear hq hq'
                have hsl : ∀ W, (Instr.slice 9 (.string s) (some (.int .i64 (pf : Int))) (some (.int .i64 (pt : Int))) none).run Tryd.prog W = .ok (.string (s.extract pf pt)) W := fun W => by
                  have := run_slice_string (P := Tryd.prog) (w := W) 9 s .i64 .i64 (pf : Int) (pt : Int) Tryd.underlying9 (by omega) (by omega) (by omega)
                  simpa using this
                go_wp2_with (first
                  | (go_at_call 22
                     refine Calls.mono (HQ.out _ ((HSR2.out.alloc _).cell 0)) ?_
                     rintro e w2 ⟨rfl, hb2⟩
                     have hP2 : Blk w2 wr.heap.size _ _ := Blk.below (Blk.new wr _ _) hb2
                     have hS2 := Blk.below (HSR2.out.alloc _) hb2
                     obtain ⟨p0, p1, p2, p3, y0, y1, y2, y3⟩ := hP2.four'
                     have s0 := hS2.cell 0
                     simp at s0
                     have HB2 := Lib.hid (((Below.refl wr.heap.size wr).alloc (Nat.le_refl _) _).call hb2)
                     clear hP2 hS2 hb2)
                  | (at_builtin
                     refine wpList_append_str rfl (.tmp 78) (.tmp 84) _ _ _ rfl byteE2 Tryd.underlying9 w1 wr w1.heap.size hbv hbv.size HB2.out u15 (1 + (bodyQ s Q (ps.take k')).length) (Q.toUInt8 :: bodyQ s Q (ps.take k')) rfl HOW2.out (s.extract pf pt) rfl (by unfold maxLen; omega) (by omega) ?_
                     intro v' W' ho' hb' hg' hlt9
                     have HO2 := Lib.hid ho'
                     clear ho'))
                go_roundw
                case rel => exact ⟨k' + 1, by omega, by go_num, bytes_str HO2.out (by rw [HT.out, bodyQ_snoc, HPC.out]) HSZ.out, hb'⟩
                case measure => simp [intOf]; omega
            · have hke' : ps.take k' = ps := List.take_of_length_le (by omega)
              rw [hke'] at HOW2 hlen2
              clear hke' htl
              have HPB := Lib.hid (show quoteB s ps _ = _ from by unfold quoteB; rw [HPQ.out])
              go_wp2_with (
                at_builtin
                refine wpList_append_blk rfl (.tmp 99) (.tmp 101) _ _ 1 1 rfl byteE w1 wr w1.heap.size hbv hbv.size ((Below.refl wr.heap.size wr).alloc (Nat.le_refl _) _) u15 (1 + (bodyQ s Q ps).length) (Lib.byteCells (Q.toUInt8 :: bodyQ s Q ps)) rfl HOW2.out _ 1 [.int .u8 (Q : Int)] rfl (Blk.new' [.int .u8 (Q : Int)] _ (by simp)) rfl (fun u hu => by simp at hu; subst hu; rfl) (by unfold maxLen; omega) (by omega) ?_
                intro v' W' ho' hb' hg' hlt9
                have hown3 := bytes_end ho' hQb
                obtain ⟨g3, cap3, he3, hcells⟩ := own_bytes hown3 (by simp)
                have hcv := run_convert_bytes_back (P := Tryd.prog) W' 58 9 5 ⟨g3, 0, none⟩ cap3 (Q.toUInt8 :: (bodyQ s Q ps ++ [Q.toUInt8])) Tryd.underlying58 Tryd.underlying5 Tryd.underlying9 hcells
                obtain ⟨N, hN⟩ : ∃ N, (Q.toUInt8 :: (bodyQ s Q ps ++ [Q.toUInt8])).length = N := ⟨_, rfl⟩
                rw [hN] at he3 hcv
                subst he3
                clear hown3 hcells ho' hN)
              go_ret2
              exact ⟨by rw [HPB.out]; rfl, HB1.out.trans (hb'.mono (by omega))⟩
        · have hd : decide ((n39 : Int) < (n34 : Int)) = false := by simp; omega
          have HPQ : Hid (pickQ s ps false = 34) := Lib.hid (by rw [HPK.out]; simp [hcmp])
          clear HPK
          go_wp2_with fail
          go_quiet (fail)
          go_wp2_with fail
          refine wp_world_q (fun W => W.ownsRow w1.heap.size 5 1 (.slice (some ⟨wr.heap.size, 0, none⟩) 1 1) 1 (Lib.byteCells [Nat.toUInt8 34]) ∧ Below w1.heap.size w1 W) ⟨by exact World.ownsRow_lit (base := w1.heap.size) (e := 5) (size := 1) (wr.drewN nq) #[.int .u8 34] 1 hbr.size (by unfold maxLen; omega) rfl, (below_drewN hbr nq).alloc hbr.size _⟩ ?_
          rintro W ⟨hOW, hbW⟩
          have HQ9 : Hid (∃ Q : Nat, Q = 34) := Lib.hid ⟨_, rfl⟩
          obtain ⟨Q, hQ⟩ := HQ9.out
          have HQL : Hid (Value.int .u8 34 = Value.int .u8 (Q : Int)) := Lib.hid (by rw [hQ]; rfl)
          have HQr : Hid (Q = 39 ∨ Q = 34) := Lib.hid (by omega)
          rw [← hQ] at hOW HPQ
          clear hQ
          have HOW := Lib.hid hOW
          have hQb : Q < 256 := by have := HQr.out; omega
          have HB9 := Lib.hid (fun k => bodyQ_len s Q 2097210 (by omega) (ps.take k) (fun p hp => HOK.out p (List.mem_of_mem_take hp)))
          clear hOW
          rw [HQL.out]
          go_loopw [15, 61] (fun out i wr => ∃ k : Nat, k ≤ ps.length ∧ i = .int .i64 (k : Int) ∧ wr.ownsRow w1.heap.size 5 1 out (1 + (bodyQ s Q (ps.take k)).length) (Lib.byteCells (Q.toUInt8 :: bodyQ s Q (ps.take k))) ∧ Below w1.heap.size w1 wr) (fun _ i _ => ps.length - (intOf i).toNat)
          case atStart => exact ⟨0, by omega, rfl, HOW.out, hbW⟩
          case round =>
            obtain ⟨k', hk', rfl, hown, hbv⟩ := hrel
            clear hbW
            have HOW2 := Lib.hid hown
            clear hown HOW
            have hlen := HB9.out k'
            have htl : (ps.take k').length ≤ k' := List.length_take_le _ _
            have hlen2 : (bodyQ s Q (ps.take k')).length ≤ k' * 2097210 := Nat.le_trans hlen (Nat.mul_le_mul_right _ htl)
            clear hlen
            by_cases hlt' : k' < ps.length
            · obtain ⟨g, rfl, hg1, hg2⟩ := HV.out (by omega)
              obtain ⟨c0, c1, c2, c3⟩ := own_part_cells (own_below HO.out hbv) k' hlt'
              have hok := HOK.out ps[k'] (List.getElem_mem hlt')
              obtain ⟨ok1, ok2, ok3, ok4, ok5⟩ := hok
              have HT := Lib.hid (take_succ_of ps k' hlt')
              have HSR2 := Lib.hid (Blk.below HSB.out hbv)
              generalize ps[k'] = p at *
              obtain ⟨pf, pt, pe, pv⟩ := p
              simp only at c0 c1 c2 c3 ok1 ok2 ok3 ok4 ok5
              have hin : pt - 1 < s.size := by omega
              have HCH : Hid (chQ s ⟨pf, pt, pe, pv⟩ = (s[pt - 1]'hin).toNat) := Lib.hid (by unfold chQ; rw [byt_eq])
              have HQ := Lib.hid (fun Wc hS => quoted_any s pf pt pe pv w.heap.size Wc (by omega) ok2 ok3 hS)
              have hpi : ((pt : Int) - 1).toNat = pt - 1 := by omega
              have hzv := hbv.size
              by_cases hq : isQ s ⟨pf, pt, pe, pv⟩ = true
              · rw [hq] at HQ
                have HQ0 := Lib.hid hq
                clear hq
                by_cases hcq : (s[pt - 1]'hin).toNat = Q
                · have HPC : Hid (pieceQ s Q ⟨pf, pt, pe, pv⟩ = [92, Q.toUInt8]) := Lib.hid (by unfold pieceQ; rw [if_pos HQ0.out, if_pos (by rw [HCH.out]; exact hcq)])
                  have g1 : ((s[pt - 1]'hin).toNat : Int) = (Q : Int) := by omega
                  clear hcq
                  go_wp2_with (first
                    | (go_at_call 22
                       refine Calls.mono (HQ.out _ ((HSR2.out.alloc _).cell 0)) ?_
                       rintro e w2 ⟨rfl, hb2⟩
                       have hP2 : Blk w2 wr.heap.size _ _ := Blk.below (Blk.new wr _ _) hb2
                       have hS2 := Blk.below (HSR2.out.alloc _) hb2
                       obtain ⟨p0, p1, p2, p3, y0, y1, y2, y3⟩ := hP2.four'
                       have s0 := hS2.cell 0
                       simp at s0
                       have HB2 := Lib.hid (((Below.refl wr.heap.size wr).alloc (Nat.le_refl _) _).call hb2)
                       clear hP2 hS2 hb2)
                    | (at_builtin
                       refine wpList_append_blk rfl (.tmp 94) (.tmp 96) _ _ 1 1 rfl byteE w1 wr w1.heap.size hbv hbv.size (HB2.out.alloc HB2.out.size _) u15 (1 + (bodyQ s Q (ps.take k')).length) (Lib.byteCells (Q.toUInt8 :: bodyQ s Q (ps.take k'))) rfl HOW2.out _ 2 [.int .u8 92, .int .u8 (Q : Int)] rfl (Blk.new' [.int .u8 92, .int .u8 (Q : Int)] _ (by simp)) rfl (fun u hu => by simp at hu; rcases hu with rfl | rfl <;> rfl) (by unfold maxLen; omega) (by omega) ?_
                       intro v' W' ho' hb' hg' hlt9
                       have HO2 := Lib.hid ho'
                       clear ho'))
                  go_roundw
                  case rel => exact ⟨k' + 1, by omega, by go_num, bytes_snoc HO2.out (by rw [HT.out, bodyQ_snoc, HPC.out]) (by rw [bytes_two Q hQb]) rfl, hb'⟩
                  case measure => simp [intOf]; omega
                · have HPC : Hid (pieceQ s Q ⟨pf, pt, pe, pv⟩ = [(s[pt - 1]'hin).toNat.toUInt8]) := Lib.hid (by unfold pieceQ; rw [if_pos HQ0.out, if_neg (by rw [HCH.out]; exact hcq), HCH.out])
                  have g1 : (((s[pt - 1]'hin).toNat : Int) == (Q : Int)) = false := by rw [beq_eq_false_iff_ne]; omega
                  have hcb := (s[pt - 1]'hin).toNat_lt
                  clear hcq
                  go_wp2_with (first
                    | (go_at_call 22
                       refine Calls.mono (HQ.out _ ((HSR2.out.alloc _).cell 0)) ?_
                       rintro e w2 ⟨rfl, hb2⟩
                       have hP2 : Blk w2 wr.heap.size _ _ := Blk.below (Blk.new wr _ _) hb2
                       have hS2 := Blk.below (HSR2.out.alloc _) hb2
                       obtain ⟨p0, p1, p2, p3, y0, y1, y2, y3⟩ := hP2.four'
                       have s0 := hS2.cell 0
                       simp at s0
                       have HB2 := Lib.hid (((Below.refl wr.heap.size wr).alloc (Nat.le_refl _) _).call hb2)
                       clear hP2 hS2 hb2)
                    | (at_builtin
                       refine wpList_append_blk rfl (.tmp 65) (.tmp 71) _ _ 1 1 rfl byteE w1 wr w1.heap.size hbv hbv.size (HB2.out.alloc HB2.out.size _) u15 (1 + (bodyQ s Q (ps.take k')).length) (Lib.byteCells (Q.toUInt8 :: bodyQ s Q (ps.take k'))) rfl HOW2.out _ 1 [.int .u8 ((s[pt - 1]'hin).toNat : Int)] rfl (Blk.new' [.int .u8 ((s[pt - 1]'hin).toNat : Int)] _ (by simp)) rfl (fun u hu => by simp at hu; subst hu; rfl) (by unfold maxLen; omega) (by omega) ?_
                       intro v' W' ho' hb' hg' hlt9
                       have HO2 := Lib.hid ho'
                       clear ho'))
                  go_roundw
                  case rel => exact ⟨k' + 1, by omega, by go_num, bytes_snoc HO2.out (by rw [HT.out, bodyQ_snoc, HPC.out]) (by rw [bytes_one _ hcb]) rfl, hb'⟩
                  case measure => simp [intOf]; omega
              · have hq' : isQ s ⟨pf, pt, pe, pv⟩ = false := by simpa using hq
                have HPC : Hid (pieceQ s Q ⟨pf, pt, pe, pv⟩ = (s.extract pf pt).data.toList) := Lib.hid (by unfold pieceQ; rw [if_neg hq, cutB_eq s pf pt ok3])
                have HSZ : Hid ((s.extract pf pt).size = (s.extract pf pt).data.toList.length) := Lib.hid (size_list _)
                have hsz : (s.extract pf pt).size ≤ s.size := by rw [HSZ.out, cutB_eq s pf pt ok3, cutB_len s pf pt ok3]; omega
                rw [hq'] at HQ
                clear hq hq'
                have hsl : ∀ W, (Instr.slice 9 (.string s) (some (.int .i64 (pf : Int))) (some (.int .i64 (pt : Int))) none).run Tryd.prog W = .ok (.string (s.extract pf pt)) W := fun W => by
                  have := run_slice_string (P := Tryd.prog) (w := W) 9 s .i64 .i64 (pf : Int) (pt : Int) Tryd.underlying9 (by omega) (by omega) (by omega)
                  simpa using this
                go_wp2_with (first
                  | (go_at_call 22
                     refine Calls.mono (HQ.out _ ((HSR2.out.alloc _).cell 0)) ?_
                     rintro e w2 ⟨rfl, hb2⟩
                     have hP2 : Blk w2 wr.heap.size _ _ := Blk.below (Blk.new wr _ _) hb2
                     have hS2 := Blk.below (HSR2.out.alloc _) hb2
                     obtain ⟨p0, p1, p2, p3, y0, y1, y2, y3⟩ := hP2.four'
                     have s0 := hS2.cell 0
                     simp at s0
                     have HB2 := Lib.hid (((Below.refl wr.heap.size wr).alloc (Nat.le_refl _) _).call hb2)
                     clear hP2 hS2 hb2)
                  | (at_builtin
                     refine wpList_append_str rfl (.tmp 78) (.tmp 84) _ _ _ rfl byteE2 Tryd.underlying9 w1 wr w1.heap.size hbv hbv.size HB2.out u15 (1 + (bodyQ s Q (ps.take k')).length) (Q.toUInt8 :: bodyQ s Q (ps.take k')) rfl HOW2.out (s.extract pf pt) rfl (by unfold maxLen; omega) (by omega) ?_
                     intro v' W' ho' hb' hg' hlt9
                     have HO2 := Lib.hid ho'
                     clear ho'))
                go_roundw
                case rel => exact ⟨k' + 1, by omega, by go_num, bytes_str HO2.out (by rw [HT.out, bodyQ_snoc, HPC.out]) HSZ.out, hb'⟩
                case measure => simp [intOf]; omega
            · have hke' : ps.take k' = ps := List.take_of_length_le (by omega)
              rw [hke'] at HOW2 hlen2
              clear hke' htl
              have HPB := Lib.hid (show quoteB s ps _ = _ from by unfold quoteB; rw [HPQ.out])
              go_wp2_with (
                at_builtin
                refine wpList_append_blk rfl (.tmp 99) (.tmp 101) _ _ 1 1 rfl byteE w1 wr w1.heap.size hbv hbv.size ((Below.refl wr.heap.size wr).alloc (Nat.le_refl _) _) u15 (1 + (bodyQ s Q ps).length) (Lib.byteCells (Q.toUInt8 :: bodyQ s Q ps)) rfl HOW2.out _ 1 [.int .u8 (Q : Int)] rfl (Blk.new' [.int .u8 (Q : Int)] _ (by simp)) rfl (fun u hu => by simp at hu; subst hu; rfl) (by unfold maxLen; omega) (by omega) ?_
                intro v' W' ho' hb' hg' hlt9
                have hown3 := bytes_end ho' hQb
                obtain ⟨g3, cap3, he3, hcells⟩ := own_bytes hown3 (by simp)
                have hcv := run_convert_bytes_back (P := Tryd.prog) W' 58 9 5 ⟨g3, 0, none⟩ cap3 (Q.toUInt8 :: (bodyQ s Q ps ++ [Q.toUInt8])) Tryd.underlying58 Tryd.underlying5 Tryd.underlying9 hcells
                obtain ⟨N, hN⟩ : ∃ N, (Q.toUInt8 :: (bodyQ s Q ps ++ [Q.toUInt8])).length = N := ⟨_, rfl⟩
                rw [hN] at he3 hcv
                subst he3
                clear hown3 hcells ho' hN)
              go_ret2
              exact ⟨by rw [HPB.out]; rfl, HB1.out.trans (hb'.mono (by omega))⟩
      · by_cases hcmp : n34 < n39
        · have hd : decide ((n34 : Int) < (n39 : Int)) = true := by simp; omega
          have HPQ : Hid (pickQ s ps true = 34) := Lib.hid (by rw [HPK.out]; simp [hcmp])
          clear HPK
          go_wp2_with fail
          go_quiet (fail)
          go_wp2_with fail
          refine wp_world_q (fun W => W.ownsRow w1.heap.size 5 1 (.slice (some ⟨wr.heap.size, 0, none⟩) 1 1) 1 (Lib.byteCells [Nat.toUInt8 34]) ∧ Below w1.heap.size w1 W) ⟨by exact World.ownsRow_lit (base := w1.heap.size) (e := 5) (size := 1) (wr.drewN nq) #[.int .u8 34] 1 hbr.size (by unfold maxLen; omega) rfl, (below_drewN hbr nq).alloc hbr.size _⟩ ?_
          rintro W ⟨hOW, hbW⟩
          have HQ9 : Hid (∃ Q : Nat, Q = 34) := Lib.hid ⟨_, rfl⟩
          obtain ⟨Q, hQ⟩ := HQ9.out
          have HQL : Hid (Value.int .u8 34 = Value.int .u8 (Q : Int)) := Lib.hid (by rw [hQ]; rfl)
          have HQr : Hid (Q = 39 ∨ Q = 34) := Lib.hid (by omega)
          rw [← hQ] at hOW HPQ
          clear hQ
          have HOW := Lib.hid hOW
          have hQb : Q < 256 := by have := HQr.out; omega
          have HB9 := Lib.hid (fun k => bodyQ_len s Q 2097210 (by omega) (ps.take k) (fun p hp => HOK.out p (List.mem_of_mem_take hp)))
          clear hOW
          rw [HQL.out]
          go_loopw [15, 61] (fun out i wr => ∃ k : Nat, k ≤ ps.length ∧ i = .int .i64 (k : Int) ∧ wr.ownsRow w1.heap.size 5 1 out (1 + (bodyQ s Q (ps.take k)).length) (Lib.byteCells (Q.toUInt8 :: bodyQ s Q (ps.take k))) ∧ Below w1.heap.size w1 wr) (fun _ i _ => ps.length - (intOf i).toNat)
          case atStart => exact ⟨0, by omega, rfl, HOW.out, hbW⟩
          case round =>
            obtain ⟨k', hk', rfl, hown, hbv⟩ := hrel
            clear hbW
            have HOW2 := Lib.hid hown
            clear hown HOW
            have hlen := HB9.out k'
            have htl : (ps.take k').length ≤ k' := List.length_take_le _ _
            have hlen2 : (bodyQ s Q (ps.take k')).length ≤ k' * 2097210 := Nat.le_trans hlen (Nat.mul_le_mul_right _ htl)
            clear hlen
            by_cases hlt' : k' < ps.length
            · obtain ⟨g, rfl, hg1, hg2⟩ := HV.out (by omega)
              obtain ⟨c0, c1, c2, c3⟩ := own_part_cells (own_below HO.out hbv) k' hlt'
              have hok := HOK.out ps[k'] (List.getElem_mem hlt')
              obtain ⟨ok1, ok2, ok3, ok4, ok5⟩ := hok
              have HT := Lib.hid (take_succ_of ps k' hlt')
              have HSR2 := Lib.hid (Blk.below HSB.out hbv)
              generalize ps[k'] = p at *
              obtain ⟨pf, pt, pe, pv⟩ := p
              simp only at c0 c1 c2 c3 ok1 ok2 ok3 ok4 ok5
              have hin : pt - 1 < s.size := by omega
              have HCH : Hid (chQ s ⟨pf, pt, pe, pv⟩ = (s[pt - 1]'hin).toNat) := Lib.hid (by unfold chQ; rw [byt_eq])
              have HQ := Lib.hid (fun Wc hS => quoted_any s pf pt pe pv w.heap.size Wc (by omega) ok2 ok3 hS)
              have hpi : ((pt : Int) - 1).toNat = pt - 1 := by omega
              have hzv := hbv.size
              by_cases hq : isQ s ⟨pf, pt, pe, pv⟩ = true
              · rw [hq] at HQ
                have HQ0 := Lib.hid hq
                clear hq
                by_cases hcq : (s[pt - 1]'hin).toNat = Q
                · have HPC : Hid (pieceQ s Q ⟨pf, pt, pe, pv⟩ = [92, Q.toUInt8]) := Lib.hid (by unfold pieceQ; rw [if_pos HQ0.out, if_pos (by rw [HCH.out]; exact hcq)])
                  have g1 : ((s[pt - 1]'hin).toNat : Int) = (Q : Int) := by omega
                  clear hcq
                  go_wp2_with (first
                    | (go_at_call 22
                       refine Calls.mono (HQ.out _ ((HSR2.out.alloc _).cell 0)) ?_
                       rintro e w2 ⟨rfl, hb2⟩
                       have hP2 : Blk w2 wr.heap.size _ _ := Blk.below (Blk.new wr _ _) hb2
                       have hS2 := Blk.below (HSR2.out.alloc _) hb2
                       obtain ⟨p0, p1, p2, p3, y0, y1, y2, y3⟩ := hP2.four'
                       have s0 := hS2.cell 0
                       simp at s0
                       have HB2 := Lib.hid (((Below.refl wr.heap.size wr).alloc (Nat.le_refl _) _).call hb2)
                       clear hP2 hS2 hb2)
                    | (at_builtin
                       refine wpList_append_blk rfl (.tmp 94) (.tmp 96) _ _ 1 1 rfl byteE w1 wr w1.heap.size hbv hbv.size (HB2.out.alloc HB2.out.size _) u15 (1 + (bodyQ s Q (ps.take k')).length) (Lib.byteCells (Q.toUInt8 :: bodyQ s Q (ps.take k'))) rfl HOW2.out _ 2 [.int .u8 92, .int .u8 (Q : Int)] rfl (Blk.new' [.int .u8 92, .int .u8 (Q : Int)] _ (by simp)) rfl (fun u hu => by simp at hu; rcases hu with rfl | rfl <;> rfl) (by unfold maxLen; omega) (by omega) ?_
                       intro v' W' ho' hb' hg' hlt9
                       have HO2 := Lib.hid ho'
                       clear ho'))
                  go_roundw
                  case rel => exact ⟨k' + 1, by omega, by go_num, bytes_snoc HO2.out (by rw [HT.out, bodyQ_snoc, HPC.out]) (by rw [bytes_two Q hQb]) rfl, hb'⟩
                  case measure => simp [intOf]; omega
                · have HPC : Hid (pieceQ s Q ⟨pf, pt, pe, pv⟩ = [(s[pt - 1]'hin).toNat.toUInt8]) := Lib.hid (by unfold pieceQ; rw [if_pos HQ0.out, if_neg (by rw [HCH.out]; exact hcq), HCH.out])
                  have g1 : (((s[pt - 1]'hin).toNat : Int) == (Q : Int)) = false := by rw [beq_eq_false_iff_ne]; omega
                  have hcb := (s[pt - 1]'hin).toNat_lt
                  clear hcq
                  go_wp2_with (first
                    | (go_at_call 22
                       refine Calls.mono (HQ.out _ ((HSR2.out.alloc _).cell 0)) ?_
                       rintro e w2 ⟨rfl, hb2⟩
                       have hP2 : Blk w2 wr.heap.size _ _ := Blk.below (Blk.new wr _ _) hb2
                       have hS2 := Blk.below (HSR2.out.alloc _) hb2
                       obtain ⟨p0, p1, p2, p3, y0, y1, y2, y3⟩ := hP2.four'
                       have s0 := hS2.cell 0
                       simp at s0
                       have HB2 := Lib.hid (((Below.refl wr.heap.size wr).alloc (Nat.le_refl _) _).call hb2)
                       clear hP2 hS2 hb2)
                    | (at_builtin
                       refine wpList_append_blk rfl (.tmp 65) (.tmp 71) _ _ 1 1 rfl byteE w1 wr w1.heap.size hbv hbv.size (HB2.out.alloc HB2.out.size _) u15 (1 + (bodyQ s Q (ps.take k')).length) (Lib.byteCells (Q.toUInt8 :: bodyQ s Q (ps.take k'))) rfl HOW2.out _ 1 [.int .u8 ((s[pt - 1]'hin).toNat : Int)] rfl (Blk.new' [.int .u8 ((s[pt - 1]'hin).toNat : Int)] _ (by simp)) rfl (fun u hu => by simp at hu; subst hu; rfl) (by unfold maxLen; omega) (by omega) ?_
                       intro v' W' ho' hb' hg' hlt9
                       have HO2 := Lib.hid ho'
                       clear ho'))
                  go_roundw
                  case rel => exact ⟨k' + 1, by omega, by go_num, bytes_snoc HO2.out (by rw [HT.out, bodyQ_snoc, HPC.out]) (by rw [bytes_one _ hcb]) rfl, hb'⟩
                  case measure => simp [intOf]; omega
              · have hq' : isQ s ⟨pf, pt, pe, pv⟩ = false := by simpa using hq
                have HPC : Hid (pieceQ s Q ⟨pf, pt, pe, pv⟩ = (s.extract pf pt).data.toList) := Lib.hid (by unfold pieceQ; rw [if_neg hq, cutB_eq s pf pt ok3])
                have HSZ : Hid ((s.extract pf pt).size = (s.extract pf pt).data.toList.length) := Lib.hid (size_list _)
                have hsz : (s.extract pf pt).size ≤ s.size := by rw [HSZ.out, cutB_eq s pf pt ok3, cutB_len s pf pt ok3]; omega
                rw [hq'] at HQ
                clear hq hq'
                have hsl : ∀ W, (Instr.slice 9 (.string s) (some (.int .i64 (pf : Int))) (some (.int .i64 (pt : Int))) none).run Tryd.prog W = .ok (.string (s.extract pf pt)) W := fun W => by
                  have := run_slice_string (P := Tryd.prog) (w := W) 9 s .i64 .i64 (pf : Int) (pt : Int) Tryd.underlying9 (by omega) (by omega) (by omega)
                  simpa using this
                go_wp2_with (first
                  | (go_at_call 22
                     refine Calls.mono (HQ.out _ ((HSR2.out.alloc _).cell 0)) ?_
                     rintro e w2 ⟨rfl, hb2⟩
                     have hP2 : Blk w2 wr.heap.size _ _ := Blk.below (Blk.new wr _ _) hb2
                     have hS2 := Blk.below (HSR2.out.alloc _) hb2
                     obtain ⟨p0, p1, p2, p3, y0, y1, y2, y3⟩ := hP2.four'
                     have s0 := hS2.cell 0
                     simp at s0
                     have HB2 := Lib.hid (((Below.refl wr.heap.size wr).alloc (Nat.le_refl _) _).call hb2)
                     clear hP2 hS2 hb2)
                  | (at_builtin
                     refine wpList_append_str rfl (.tmp 78) (.tmp 84) _ _ _ rfl byteE2 Tryd.underlying9 w1 wr w1.heap.size hbv hbv.size HB2.out u15 (1 + (bodyQ s Q (ps.take k')).length) (Q.toUInt8 :: bodyQ s Q (ps.take k')) rfl HOW2.out (s.extract pf pt) rfl (by unfold maxLen; omega) (by omega) ?_
                     intro v' W' ho' hb' hg' hlt9
                     have HO2 := Lib.hid ho'
                     clear ho'))
                go_roundw
                case rel => exact ⟨k' + 1, by omega, by go_num, bytes_str HO2.out (by rw [HT.out, bodyQ_snoc, HPC.out]) HSZ.out, hb'⟩
                case measure => simp [intOf]; omega
            · have hke' : ps.take k' = ps := List.take_of_length_le (by omega)
              rw [hke'] at HOW2 hlen2
              clear hke' htl
              have HPB := Lib.hid (show quoteB s ps _ = _ from by unfold quoteB; rw [HPQ.out])
              go_wp2_with (
                at_builtin
                refine wpList_append_blk rfl (.tmp 99) (.tmp 101) _ _ 1 1 rfl byteE w1 wr w1.heap.size hbv hbv.size ((Below.refl wr.heap.size wr).alloc (Nat.le_refl _) _) u15 (1 + (bodyQ s Q ps).length) (Lib.byteCells (Q.toUInt8 :: bodyQ s Q ps)) rfl HOW2.out _ 1 [.int .u8 (Q : Int)] rfl (Blk.new' [.int .u8 (Q : Int)] _ (by simp)) rfl (fun u hu => by simp at hu; subst hu; rfl) (by unfold maxLen; omega) (by omega) ?_
                intro v' W' ho' hb' hg' hlt9
                have hown3 := bytes_end ho' hQb
                obtain ⟨g3, cap3, he3, hcells⟩ := own_bytes hown3 (by simp)
                have hcv := run_convert_bytes_back (P := Tryd.prog) W' 58 9 5 ⟨g3, 0, none⟩ cap3 (Q.toUInt8 :: (bodyQ s Q ps ++ [Q.toUInt8])) Tryd.underlying58 Tryd.underlying5 Tryd.underlying9 hcells
                obtain ⟨N, hN⟩ : ∃ N, (Q.toUInt8 :: (bodyQ s Q ps ++ [Q.toUInt8])).length = N := ⟨_, rfl⟩
                rw [hN] at he3 hcv
                subst he3
                clear hown3 hcells ho' hN)
              go_ret2
              exact ⟨by rw [HPB.out]; rfl, HB1.out.trans (hb'.mono (by omega))⟩
        · have hd : decide ((n34 : Int) < (n39 : Int)) = false := by simp; omega
          have HPQ : Hid (pickQ s ps true = 39) := Lib.hid (by rw [HPK.out]; simp [hcmp])
          clear HPK
          go_wp2_with fail
          go_quiet (fail)
          go_wp2_with fail
          refine wp_world_q (fun W => W.ownsRow w1.heap.size 5 1 (.slice (some ⟨wr.heap.size, 0, none⟩) 1 1) 1 (Lib.byteCells [Nat.toUInt8 39]) ∧ Below w1.heap.size w1 W) ⟨by exact World.ownsRow_lit (base := w1.heap.size) (e := 5) (size := 1) (wr.drewN nq) #[.int .u8 39] 1 hbr.size (by unfold maxLen; omega) rfl, (below_drewN hbr nq).alloc hbr.size _⟩ ?_
          rintro W ⟨hOW, hbW⟩
          have HQ9 : Hid (∃ Q : Nat, Q = 39) := Lib.hid ⟨_, rfl⟩
          obtain ⟨Q, hQ⟩ := HQ9.out
          have HQL : Hid (Value.int .u8 39 = Value.int .u8 (Q : Int)) := Lib.hid (by rw [hQ]; rfl)
          have HQr : Hid (Q = 39 ∨ Q = 34) := Lib.hid (by omega)
          rw [← hQ] at hOW HPQ
          clear hQ
          have HOW := Lib.hid hOW
          have hQb : Q < 256 := by have := HQr.out; omega
          have HB9 := Lib.hid (fun k => bodyQ_len s Q 2097210 (by omega) (ps.take k) (fun p hp => HOK.out p (List.mem_of_mem_take hp)))
          clear hOW
          rw [HQL.out]
          go_loopw [15, 61] (fun out i wr => ∃ k : Nat, k ≤ ps.length ∧ i = .int .i64 (k : Int) ∧ wr.ownsRow w1.heap.size 5 1 out (1 + (bodyQ s Q (ps.take k)).length) (Lib.byteCells (Q.toUInt8 :: bodyQ s Q (ps.take k))) ∧ Below w1.heap.size w1 wr) (fun _ i _ => ps.length - (intOf i).toNat)
          case atStart => exact ⟨0, by omega, rfl, HOW.out, hbW⟩
          case round =>
            obtain ⟨k', hk', rfl, hown, hbv⟩ := hrel
            clear hbW
            have HOW2 := Lib.hid hown
            clear hown HOW
            have hlen := HB9.out k'
            have htl : (ps.take k').length ≤ k' := List.length_take_le _ _
            have hlen2 : (bodyQ s Q (ps.take k')).length ≤ k' * 2097210 := Nat.le_trans hlen (Nat.mul_le_mul_right _ htl)
            clear hlen
            by_cases hlt' : k' < ps.length
            · obtain ⟨g, rfl, hg1, hg2⟩ := HV.out (by omega)
              obtain ⟨c0, c1, c2, c3⟩ := own_part_cells (own_below HO.out hbv) k' hlt'
              have hok := HOK.out ps[k'] (List.getElem_mem hlt')
              obtain ⟨ok1, ok2, ok3, ok4, ok5⟩ := hok
              have HT := Lib.hid (take_succ_of ps k' hlt')
              have HSR2 := Lib.hid (Blk.below HSB.out hbv)
              generalize ps[k'] = p at *
              obtain ⟨pf, pt, pe, pv⟩ := p
              simp only at c0 c1 c2 c3 ok1 ok2 ok3 ok4 ok5
              have hin : pt - 1 < s.size := by omega
              have HCH : Hid (chQ s ⟨pf, pt, pe, pv⟩ = (s[pt - 1]'hin).toNat) := Lib.hid (by unfold chQ; rw [byt_eq])
              have HQ := Lib.hid (fun Wc hS => quoted_any s pf pt pe pv w.heap.size Wc (by omega) ok2 ok3 hS)
              have hpi : ((pt : Int) - 1).toNat = pt - 1 := by omega
              have hzv := hbv.size
              by_cases hq : isQ s ⟨pf, pt, pe, pv⟩ = true
              · rw [hq] at HQ
                have HQ0 := Lib.hid hq
                clear hq
                by_cases hcq : (s[pt - 1]'hin).toNat = Q
                · have HPC : Hid (pieceQ s Q ⟨pf, pt, pe, pv⟩ = [92, Q.toUInt8]) := Lib.hid (by unfold pieceQ; rw [if_pos HQ0.out, if_pos (by rw [HCH.out]; exact hcq)])
                  have g1 : ((s[pt - 1]'hin).toNat : Int) = (Q : Int) := by omega
                  clear hcq
                  go_wp2_with (first
                    | (go_at_call 22
                       refine Calls.mono (HQ.out _ ((HSR2.out.alloc _).cell 0)) ?_
                       rintro e w2 ⟨rfl, hb2⟩
                       have hP2 : Blk w2 wr.heap.size _ _ := Blk.below (Blk.new wr _ _) hb2
                       have hS2 := Blk.below (HSR2.out.alloc _) hb2
                       obtain ⟨p0, p1, p2, p3, y0, y1, y2, y3⟩ := hP2.four'
                       have s0 := hS2.cell 0
                       simp at s0
                       have HB2 := Lib.hid (((Below.refl wr.heap.size wr).alloc (Nat.le_refl _) _).call hb2)
                       clear hP2 hS2 hb2)
                    | (at_builtin
                       refine wpList_append_blk rfl (.tmp 94) (.tmp 96) _ _ 1 1 rfl byteE w1 wr w1.heap.size hbv hbv.size (HB2.out.alloc HB2.out.size _) u15 (1 + (bodyQ s Q (ps.take k')).length) (Lib.byteCells (Q.toUInt8 :: bodyQ s Q (ps.take k'))) rfl HOW2.out _ 2 [.int .u8 92, .int .u8 (Q : Int)] rfl (Blk.new' [.int .u8 92, .int .u8 (Q : Int)] _ (by simp)) rfl (fun u hu => by simp at hu; rcases hu with rfl | rfl <;> rfl) (by unfold maxLen; omega) (by omega) ?_
                       intro v' W' ho' hb' hg' hlt9
                       have HO2 := Lib.hid ho'
                       clear ho'))
                  go_roundw
                  case rel => exact ⟨k' + 1, by omega, by go_num, bytes_snoc HO2.out (by rw [HT.out, bodyQ_snoc, HPC.out]) (by rw [bytes_two Q hQb]) rfl, hb'⟩
                  case measure => simp [intOf]; omega
                · have HPC : Hid (pieceQ s Q ⟨pf, pt, pe, pv⟩ = [(s[pt - 1]'hin).toNat.toUInt8]) := Lib.hid (by unfold pieceQ; rw [if_pos HQ0.out, if_neg (by rw [HCH.out]; exact hcq), HCH.out])
                  have g1 : (((s[pt - 1]'hin).toNat : Int) == (Q : Int)) = false := by rw [beq_eq_false_iff_ne]; omega
                  have hcb := (s[pt - 1]'hin).toNat_lt
                  clear hcq
                  go_wp2_with (first
                    | (go_at_call 22
                       refine Calls.mono (HQ.out _ ((HSR2.out.alloc _).cell 0)) ?_
                       rintro e w2 ⟨rfl, hb2⟩
                       have hP2 : Blk w2 wr.heap.size _ _ := Blk.below (Blk.new wr _ _) hb2
                       have hS2 := Blk.below (HSR2.out.alloc _) hb2
                       obtain ⟨p0, p1, p2, p3, y0, y1, y2, y3⟩ := hP2.four'
                       have s0 := hS2.cell 0
                       simp at s0
                       have HB2 := Lib.hid (((Below.refl wr.heap.size wr).alloc (Nat.le_refl _) _).call hb2)
                       clear hP2 hS2 hb2)
                    | (at_builtin
                       refine wpList_append_blk rfl (.tmp 65) (.tmp 71) _ _ 1 1 rfl byteE w1 wr w1.heap.size hbv hbv.size (HB2.out.alloc HB2.out.size _) u15 (1 + (bodyQ s Q (ps.take k')).length) (Lib.byteCells (Q.toUInt8 :: bodyQ s Q (ps.take k'))) rfl HOW2.out _ 1 [.int .u8 ((s[pt - 1]'hin).toNat : Int)] rfl (Blk.new' [.int .u8 ((s[pt - 1]'hin).toNat : Int)] _ (by simp)) rfl (fun u hu => by simp at hu; subst hu; rfl) (by unfold maxLen; omega) (by omega) ?_
                       intro v' W' ho' hb' hg' hlt9
                       have HO2 := Lib.hid ho'
                       clear ho'))
                  go_roundw
                  case rel => exact ⟨k' + 1, by omega, by go_num, bytes_snoc HO2.out (by rw [HT.out, bodyQ_snoc, HPC.out]) (by rw [bytes_one _ hcb]) rfl, hb'⟩
                  case measure => simp [intOf]; omega
              · have hq' : isQ s ⟨pf, pt, pe, pv⟩ = false := by simpa using hq
                have HPC : Hid (pieceQ s Q ⟨pf, pt, pe, pv⟩ = (s.extract pf pt).data.toList) := Lib.hid (by unfold pieceQ; rw [if_neg hq, cutB_eq s pf pt ok3])
                have HSZ : Hid ((s.extract pf pt).size = (s.extract pf pt).data.toList.length) := Lib.hid (size_list _)
                have hsz : (s.extract pf pt).size ≤ s.size := by rw [HSZ.out, cutB_eq s pf pt ok3, cutB_len s pf pt ok3]; omega
                rw [hq'] at HQ
                clear hq hq'
                have hsl : ∀ W, (Instr.slice 9 (.string s) (some (.int .i64 (pf : Int))) (some (.int .i64 (pt : Int))) none).run Tryd.prog W = .ok (.string (s.extract pf pt)) W := fun W => by
                  have := run_slice_string (P := Tryd.prog) (w := W) 9 s .i64 .i64 (pf : Int) (pt : Int) Tryd.underlying9 (by omega) (by omega) (by omega)
                  simpa using this
                go_wp2_with (first
                  | (go_at_call 22
                     refine Calls.mono (HQ.out _ ((HSR2.out.alloc _).cell 0)) ?_
                     rintro e w2 ⟨rfl, hb2⟩
                     have hP2 : Blk w2 wr.heap.size _ _ := Blk.below (Blk.new wr _ _) hb2
                     have hS2 := Blk.below (HSR2.out.alloc _) hb2
                     obtain ⟨p0, p1, p2, p3, y0, y1, y2, y3⟩ := hP2.four'
                     have s0 := hS2.cell 0
                     simp at s0
                     have HB2 := Lib.hid (((Below.refl wr.heap.size wr).alloc (Nat.le_refl _) _).call hb2)
                     clear hP2 hS2 hb2)
                  | (at_builtin
                     refine wpList_append_str rfl (.tmp 78) (.tmp 84) _ _ _ rfl byteE2 Tryd.underlying9 w1 wr w1.heap.size hbv hbv.size HB2.out u15 (1 + (bodyQ s Q (ps.take k')).length) (Q.toUInt8 :: bodyQ s Q (ps.take k')) rfl HOW2.out (s.extract pf pt) rfl (by unfold maxLen; omega) (by omega) ?_
                     intro v' W' ho' hb' hg' hlt9
                     have HO2 := Lib.hid ho'
                     clear ho'))
                go_roundw
                case rel => exact ⟨k' + 1, by omega, by go_num, bytes_str HO2.out (by rw [HT.out, bodyQ_snoc, HPC.out]) HSZ.out, hb'⟩
                case measure => simp [intOf]; omega
            · have hke' : ps.take k' = ps := List.take_of_length_le (by omega)
              rw [hke'] at HOW2 hlen2
              clear hke' htl
              have HPB := Lib.hid (show quoteB s ps _ = _ from by unfold quoteB; rw [HPQ.out])
              go_wp2_with (
                at_builtin
                refine wpList_append_blk rfl (.tmp 99) (.tmp 101) _ _ 1 1 rfl byteE w1 wr w1.heap.size hbv hbv.size ((Below.refl wr.heap.size wr).alloc (Nat.le_refl _) _) u15 (1 + (bodyQ s Q ps).length) (Lib.byteCells (Q.toUInt8 :: bodyQ s Q ps)) rfl HOW2.out _ 1 [.int .u8 (Q : Int)] rfl (Blk.new' [.int .u8 (Q : Int)] _ (by simp)) rfl (fun u hu => by simp at hu; subst hu; rfl) (by unfold maxLen; omega) (by omega) ?_
                intro v' W' ho' hb' hg' hlt9
                have hown3 := bytes_end ho' hQb
                obtain ⟨g3, cap3, he3, hcells⟩ := own_bytes hown3 (by simp)
                have hcv := run_convert_bytes_back (P := Tryd.prog) W' 58 9 5 ⟨g3, 0, none⟩ cap3 (Q.toUInt8 :: (bodyQ s Q ps ++ [Q.toUInt8])) Tryd.underlying58 Tryd.underlying5 Tryd.underlying9 hcells
                obtain ⟨N, hN⟩ : ∃ N, (Q.toUInt8 :: (bodyQ s Q ps ++ [Q.toUInt8])).length = N := ⟨_, rfl⟩
                rw [hN] at he3 hcv
                subst he3
                clear hown3 hcells ho' hN)
              go_ret2
              exact ⟨by rw [HPB.out]; rfl, HB1.out.trans (hb'.mono (by omega))⟩
set_option maxHeartbeats 1000000 in
theorem quote_err (s : ByteArray) (single : Bool) (w : World) (hs : s.size ≤ 2097200) (hT : Tabs w) (p : Nat) (hp : partsB s = .error p) :
    Calls Tryd.prog 18 #[.string s, .bool single] w fun e w' => e = .returned (.tuple #[.string ⟨#[]⟩, .int .i64 300]) ∧ Below w.heap.size w w' := by
  have HC := Lib.hid (fun (o : Obj) => parts_any s (w.alloc o) (by omega) (hT.below ((Below.refl _ w).alloc (Nat.le_refl _) o)))
  have HP := Lib.hid hp
  clear hp hT
  go_enter Tryd.func18, Tryd.ntmps18
  go_wp2_with (go_at_call 20; refine (HC.out _).mono ?_; rintro e w1 ⟨he, hb1⟩; unfold PartsOut at he; rw [HP.out] at he; subst he; have HB1 := Lib.hid (((Below.refl _ w).alloc (Nat.le_refl _) _).trans (hb1.mono (by simp))); clear hb1)
  go_ret2
  exact ⟨rfl, HB1.out⟩
def quoteS (s : ByteArray) (single : Bool) : ByteArray := match partsB s with | .ok ps => ⟨(quoteB s ps single).toArray⟩ | .error _ => ⟨#[]⟩
theorem quote_any (s : ByteArray) (single : Bool) (w : World) (hs : s.size ≤ 2097200) (hT : Tabs w) :
    Calls Tryd.prog 18 #[.string s, .bool single] w fun e w' => e = .returned (.tuple #[.string (quoteS s single), .int .i64 (checkCode s)]) ∧ Below w.heap.size w w' := by
  cases hp : partsB s with
  | ok ps =>
    refine (quote_try s single w hs hT ps hp).mono ?_
    rintro e w' ⟨rfl, hb⟩
    refine ⟨?_, hb⟩
    unfold quoteS checkCode
    rw [hp]
  | error p =>
    refine (quote_err s single w hs hT p hp).mono ?_
    rintro e w' ⟨rfl, hb⟩
    refine ⟨?_, hb⟩
    unfold quoteS checkCode
    rw [hp]
end Go.Proofs.YtcjnlbelgmcpeaaDoor
