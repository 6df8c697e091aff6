/- edits.Apply. -/
import Derived.Test.YtakolehlaejhfaaEdLines
import Derived.Test.YtakolehlaejhfaaBuilderE
import Derived.Test.YtakolehlaejhfaaEdEnd
import Derived.IntWalk
namespace Go.Proofs.Ytakolehlaejhfaa
open Go.RowKit
set_option maxRecDepth 100000
set_option linter.unusedVariables false
set_option linter.unusedSimpArgs false

theorem strCells_of (l : Ln) : Lib.strCells (strOf l) = Lib.byteCells l := by simp [Lib.strCells, Lib.byteCells, strOf]
def Bd (B b : Nat) (out : Ln) (w : World) : Prop := Lib.IsBuilder 65 5 B b (Lib.byteCells out) w
theorem Bd.write {B b : Nat} {out : Ln} {w : World} (h : Bd B b out w) (l : Ln) (hlen : out.length + l.length ≤ 140737488355328) (hBw : B ≤ w.heap.size) :
    Calls Try.prog 33 #[.pointer (some ⟨b, 0, none⟩), .string (strOf l)] w fun e w' => e = .returned (.tuple #[.int .i64 (l.length : Int), .nilIface]) ∧ Bd B b (out ++ l) w' ∧ Below B w w' ∧ ∀ g cs T, Blk w g cs T → T ≠ 5 → T ≠ 65 → Blk w' g cs T := by
  refine (writeString_any B b _ (strOf l) w h (by simp [Lib.byteCells, strOf_size]; omega) hBw).mono ?_
  rintro e w' ⟨rfl, h1, h2, h3⟩
  refine ⟨by rw [strOf_size], .inr ?_, h2, h3⟩
  rw [strCells_of] at h1
  simpa [Lib.byteCells] using h1
theorem Bd.alloc {B b : Nat} {out : Ln} {w : World} (h : Bd B b out w) (o : Obj) : Bd B b out (w.alloc o) := by
  rcases h with ⟨h1, v, h2, h3, h4⟩ | ⟨h1, v, h2, h3, h4⟩
  · exact .inl ⟨h1, v, (Below.heap_alloc w o b (Array.getElem?_eq_some_iff.1 h2).1).trans h2, h3.alloc o, h4⟩
  · exact .inr ⟨h1, v, (Below.heap_alloc w o b (Array.getElem?_eq_some_iff.1 h2).1).trans h2, h3.alloc o, h4⟩
/-- How many letters edits put in. -/
def putSum (es : List Ed) : Nat := (es.map fun e => e.put.flatten.length).sum
def badE (n : Nat) (e : Ed) : Prop := e.keep < 0 ∨ e.drop < 0 ∨ (n : Int) < e.keep ∨ (n : Int) - e.keep < e.drop
theorem applyB_bad {left : List Ln} {e : Ed} {es : List Ed} (h : badE left.length e) : applyB left (e :: es) = none := by
  unfold badE at h; unfold applyB; rw [if_pos h]
theorem applyB_good {left : List Ln} {e : Ed} {es : List Ed} (h : ¬ badE left.length e) : applyB left (e :: es) = (applyB (left.drop (e.keep.toNat + e.drop.toNat)) es).map (fun r => (left.take e.keep.toNat).flatten ++ e.put.flatten ++ r) := by
  unfold badE at h
  conv => lhs; unfold applyB
  rw [if_neg h]
/-- What Apply hands back. -/
def applyV (r : Option Ln) : Value := .tuple #[.string (strOf (r.getD [])), .int .i64 (if r.isNone then 2401 else 0)]
theorem add_zero' (a : Addr) : a.add 0 = a := by unfold Addr.add; split <;> simp_all
theorem flat_take (l : List Ln) (q : Nat) (hq : q < l.length) : (l.take (q + 1)).flatten = (l.take q).flatten ++ l[q] := by
  rw [List.take_succ_eq_append_getElem hq, List.flatten_append, List.flatten_cons, List.flatten_nil, List.append_nil]
theorem flat_part (l : List Ln) (q : Nat) : (l.take q).flatten.length + (l.drop q).flatten.length = l.flatten.length := by
  have := congrArg (fun x : List Ln => x.flatten.length) (List.take_append_drop q l)
  simp only [List.flatten_append, List.length_append] at this
  exact this

set_option maxHeartbeats 8000000 in
theorem apply_any (s : ByteArray) (A : Option Addr) (c : Nat) (es : List Ed) (w : World) (hE : EdsAt w 0 w.heap.size A es) (hs : s.size ≤ 1048576) (hps : putSum es ≤ 1048576) (hes : es.length ≤ 1048576) (hpl : ∀ e ∈ es, e.put.length ≤ 1048576) :
    Calls Try.prog 16 #[.string s, .slice A es.length c] w fun e w' => e = .returned (applyV (applyB (linesB s.data.toList) es)) ∧ Below w.heap.size w w' := by
  have HL := Lib.hid (lines_any s w hs)
  have hfl := linesB_flat s.data.toList
  have hnl := linesB_len s.data.toList
  have e1 : s.data.toList.length = s.size := by simp
  obtain ⟨L, hL⟩ : ∃ L, L = linesB s.data.toList := ⟨_, rfl⟩
  rw [← hL] at HL hfl hnl ⊢
  have hLf : L.flatten.length ≤ 1048576 := by rw [hfl, e1]; exact hs
  have hLl : L.length ≤ 1048576 := by omega
  have HE := Lib.hid hE
  have HPL := Lib.hid hpl
  clear hL hfl hnl e1 hE hpl
  go_enter Try.func16, Try.ntmps16
  go_wp2_with fail
  refine HL.out.mono ?_
  rintro e w1 ⟨A1, c1, rfl, hc1, ht1, hb1⟩
  have HT1 := Lib.hid ht1
  have HB1 := Lib.hid hb1
  clear ht1 hb1
  go_wp2_with fail
  obtain ⟨b, hb⟩ : ∃ b, b = w1.heap.size := ⟨_, rfl⟩
  rw [← hb]
  obtain ⟨W0, hW0⟩ : ∃ W0, w1.alloc (.cells #[.pointer none, .slice none 0 0] 65) = W0 := ⟨_, rfl⟩
  rw [hW0]
  have hz0 : W0.heap.size = b + 1 := by rw [← hW0]; simp [hb]
  have hbw : w.heap.size ≤ b := by have := HB1.out.size; omega
  have hbd0 : Bd b b [] W0 := by
    rw [← hW0]
    refine .inl ⟨Nat.le_refl _, .slice none 0 0, by rw [hb]; exact heap_alloc_new w1 _, World.ownsRow_nil _ _ _ _, by simp [Value.ownBlock]⟩
  have hbe0 : Below b w1 W0 := by rw [← hW0]; exact (Below.refl b w1).alloc (by omega) _
  have hT0 : TxtAt W0 0 b A1 L := (HT1.out.wide (Nat.zero_le _) (by omega)).below hbe0 (Nat.le_refl _)
  have hw0 : Below w.heap.size w W0 := HB1.out.trans (hbe0.mono hbw)
  have H0 := Lib.hid (And.intro hbd0 (And.intro hT0 hw0))
  clear hW0 hbd0 hbe0 hT0 hw0 HL HT1 hb
  go_loopw [6, 9, 11, 13, 18] (fun left _ _ _ j wr => ∃ (jj : Nat) (lf : List Ln) (A' : Option Addr) (c' : Nat) (out : Ln), jj ≤ es.length ∧ j = .int .i64 (jj : Int) ∧ left = .slice A' lf.length c' ∧ lf.length ≤ c' ∧ lf.length ≤ 1048576 ∧ TxtAt wr 0 b A' lf ∧ Bd b b out wr ∧ b < wr.heap.size ∧ Below w.heap.size w wr ∧
      applyB L es = (applyB lf (es.drop jj)).map (fun r => out ++ r) ∧ out.length + lf.flatten.length + putSum (es.drop jj) ≤ 2097152) (fun _ _ _ _ j _ => es.length - (intOf j).toNat)
  case atStart =>
    refine ⟨0, L, A1, c1, [], Nat.zero_le _, rfl, rfl, hc1, hLl, H0.out.2.1, H0.out.1, by omega, H0.out.2.2, ?_, by simp only [List.length_nil, List.drop_zero]; omega⟩
    simp only [List.drop_zero]
    cases applyB L es <;> simp
  case round =>
    obtain ⟨j, lf, A', c', out, hj, rfl, rfl, hc', hll, htx, hbd, hbz, hbe, hap, hsum⟩ := hrel
    by_cases hlt : j < es.length
    · have hdr := List.drop_eq_getElem_cons hlt
      have hEw := HE.out.below hbe (Nat.le_refl _)
      obtain ⟨eb, eo, eA, _, hel, k1, k2, PA, pc, k3, hpc, hpt⟩ := hEw.at_ hlt
      have hpl1 := HPL.out _ (List.getElem_mem hlt)
      generalize es[j]'hlt = E at *
      subst eA
      have HAP := Lib.hid hap
      have HTX := Lib.hid htx
      have HBD := Lib.hid hbd
      have HBE := Lib.hid hbe
      have HDR := Lib.hid hdr
      have HPT := Lib.hid hpt
      have hji : (j : Int) < (es.length : Int) := by omega
      clear hap htx hbd hbe hdr hpt hEw H0
      by_cases hbad : badE lf.length E
      · have hr : applyB L es = none := by rw [HAP.out, HDR.out, applyB_bad hbad]; rfl
        have HR := Lib.hid hr
        have hcase : E.keep < 0 ∨ (0 ≤ E.keep ∧ E.drop < 0) ∨ (0 ≤ E.keep ∧ 0 ≤ E.drop ∧ (lf.length : Int) < E.keep) ∨ (0 ≤ E.keep ∧ 0 ≤ E.drop ∧ E.keep ≤ (lf.length : Int) ∧ (lf.length : Int) - E.keep < E.drop) := by
          unfold badE at hbad; omega
        clear hbad hr
        rcases hcase with h1 | ⟨h1, h2⟩ | ⟨h1, h2, h3⟩ | ⟨h1, h2, h3, h4⟩
        all_goals
          go_wp2_with fail
          go_ret2
          refine ⟨by rw [HR.out]; rfl, ?_⟩
          have := HBE.out
          exact this.alloc this.size _
      · have hgood := applyB_good (es := es.drop (j + 1)) hbad
        unfold badE at hbad
        obtain ⟨K, hK⟩ : ∃ K : Nat, E.keep = (K : Int) := ⟨E.keep.toNat, by omega⟩
        obtain ⟨D, hD⟩ : ∃ D : Nat, E.drop = (D : Int) := ⟨E.drop.toNat, by omega⟩
        rw [hK, hD] at hgood hbad
        rw [hK] at k1
        rw [hD] at k2
        simp only [Int.toNat_natCast] at hgood
        have hKD : K + D ≤ lf.length := by omega
        have h1 : (0 : Int) ≤ (K : Int) := by omega
        have h2 : (0 : Int) ≤ (D : Int) := by omega
        have h3 : (K : Int) ≤ (lf.length : Int) := by omega
        have h4 : (D : Int) ≤ (lf.length : Int) - (K : Int) := by omega
        have HG := Lib.hid hgood
        have HKD := Lib.hid hKD
        have hps1 : putSum (es.drop j) = E.put.flatten.length + putSum (es.drop (j + 1)) := by rw [HDR.out]; simp [putSum]
        have hfp := flat_part lf K
        have hfd : (lf.drop (K + D)).flatten.length ≤ (lf.drop K).flatten.length := by
          have := flat_part (lf.drop K) D
          rw [List.drop_drop] at this
          omega
        have hbig : out.length + (lf.take K).flatten.length + E.put.flatten.length ≤ 2097152 := by omega
        have hnext : (out ++ (lf.take K).flatten ++ E.put.flatten).length + (lf.drop (K + D)).flatten.length + putSum (es.drop (j + 1)) ≤ 2097152 := by simp only [List.length_append]; omega
        have HBIG := Lib.hid hbig
        have HNEXT := Lib.hid hnext
        have HSL1 : ∀ W, (Instr.slice 40 (.slice A' lf.length c') none (some (.int .i64 (K : Int))) none).run Try.prog W = .ok (.slice A' K c') W := by
          intro W
          rw [run_slice_h _ _ _ _ _ (by kernel_rfl) _ _ (by omega) (by omega)]
          have hel : Try.prog.elem 40 = 9 := by kernel_rfl
          rw [hel, Try.sizeOf9]
          have : (fun x : Addr => x.add 0) = id := by funext x; exact add_zero' x
          simp [sliced, Result.andThen, this]
        obtain ⟨A2, hA2⟩ : ∃ A2, A2 = (if c' = K + D then A' else A'.map (·.add ((K + D) * 1))) := ⟨_, rfl⟩
        have HSL2 : ∀ W, (Instr.slice 40 (.slice A' lf.length c') (some (.int .i64 ((K : Int) + (D : Int)))) none none).run Try.prog W = .ok (.slice A2 (lf.drop (K + D)).length (c' - (K + D))) W := by
          intro W
          rw [run_slice_l _ _ _ _ _ (by kernel_rfl) _ _ (by omega) (by omega)]
          have hel : Try.prog.elem 40 = 9 := by kernel_rfl
          rw [hel, Try.sizeOf9]
          have e : ((K : Int) + (D : Int)).toNat = K + D := by omega
          simp [sliced, Result.andThen, hA2, e]
        have HCUT : Hid (∀ W, TxtAt W 0 b A' lf → TxtAt W 0 b A2 (lf.drop (K + D))) := Lib.hid (fun W h => by
          have := h.cut (k := K + D) (m := lf.length) c' hc'
          rw [List.take_of_length_le (by rw [List.length_drop]; omega)] at this
          rw [hA2]; exact this)
        have HSL1' := Lib.hid HSL1
        have HSL2' := Lib.hid HSL2
        clear hK hD hgood hbad hps1 hfp hfd hbig hnext HSL1 HSL2 hA2 hsum
        have hs1 := HSL1'.out
        have t1 : decide ((K : Int) < 0) = false := by simp
        have t2 : decide ((D : Int) < 0) = false := by simp
        have t3 : decide (lf.length < K) = false := by simp; omega
        have t4 : decide ((lf.length : Int) - (K : Int) < (D : Int)) = false := by simp; omega
        go_wp2_with fail
        clear t1 t2 t3 t4
        obtain ⟨ex, hex⟩ : ∃ n, n = wr.heap.size := ⟨_, rfl⟩
        rw [← hex]
        obtain ⟨W1, hW1⟩ : ∃ W1, wr.alloc (.cells #[.int .i64 (K : Int), .int .i64 (D : Int), .slice PA E.put.length pc] 43) = W1 := ⟨_, rfl⟩
        rw [hW1]
        have hbx : Blk W1 ex [.int .i64 (K : Int), .int .i64 (D : Int), .slice PA E.put.length pc] 43 := by rw [← hW1]; exact Blk.new' _ _ hex
        have hbd1 : Bd b b out W1 := by rw [← hW1]; exact HBD.out.alloc _
        have hbe1 : Below b wr W1 := by rw [← hW1]; exact (Below.refl b wr).alloc (by omega) _
        have hz1 : b < W1.heap.size := by have := hbe1.size; omega
        have HBX := Lib.hid hbx
        have HBD1 := Lib.hid hbd1
        have HBE1 := Lib.hid hbe1
        clear hex hW1 hbx hbd1 hbe1 k1 k2 k3 hs1
        obtain ⟨wo, rfl⟩ : ∃ wo : World, wo = wr := ⟨_, rfl⟩
        go_loopw [11, 52] (fun _ q W => ∃ qq : Nat, qq ≤ K ∧ q = .int .i64 (qq : Int) ∧ Bd b b (out ++ (lf.take qq).flatten) W ∧ Below b wo W ∧ Blk W ex [.int .i64 (K : Int), .int .i64 (D : Int), .slice PA E.put.length pc] 43 ∧ b < W.heap.size) (fun _ q _ => K - (intOf q).toNat)
        case atStart => exact ⟨0, Nat.zero_le _, rfl, by simpa using HBD1.out, HBE1.out, HBX.out, hz1⟩
        case round =>
          obtain ⟨q, hq, rfl, hbd, hbe, hbx, hbz⟩ := hrel
          have HBD2 := Lib.hid hbd
          have HBE2 := Lib.hid hbe
          have HBX2 := Lib.hid hbx
          by_cases hqK : q < K
          · have hql : q < lf.length := by omega
            obtain ⟨lb, lo, lA, _, hlb, hlc⟩ := (HTX.out.below hbe (Nat.le_refl _)).at_ hql
            subst lA
            have hqi : (q : Int) < (K : Int) := by omega
            have hfq := flat_take lf q hql
            have hle : (lf.take q).flatten.length + (lf[q]'hql).length ≤ (lf.take K).flatten.length := by
              have h5 := congrArg List.length hfq
              rw [List.length_append] at h5
              have h6 : (lf.take (q + 1)).flatten.length ≤ (lf.take K).flatten.length := by
                have := flat_part (lf.take K) (q + 1)
                rw [List.take_take, Nat.min_eq_left (by omega)] at this
                omega
              omega
            have HFQ := Lib.hid hfq
            have HLE := Lib.hid hle
            clear hbd hbe hbx hfq hle
            generalize lf[q]'hql = l at *
            go_wp2_with (go_at_call 33; refine (HBD2.out.write l (by have := HLE.out; have := HBIG.out; rw [List.length_append]; omega) (by omega)).mono ?_; rintro e w5 ⟨rfl, hbd5, hbe5, hbk5⟩; have HBD5 := Lib.hid hbd5; have HBE5 := Lib.hid hbe5; have HBK5 := Lib.hid (hbk5 _ _ _ HBX2.out (by decide) (by decide)); clear hbd5 hbe5 hbk5)
            go_roundw
            case rel => exact ⟨q + 1, by omega, by go_num, by rw [HFQ.out, ← List.append_assoc]; exact HBD5.out, HBE2.out.trans HBE5.out, HBK5.out, by have := HBE5.out.size; omega⟩
            case measure => simp [intOf]; omega
          · have hqe : q = K := by omega
            rw [hqe] at HBD2
            have hqi : (K : Int) ≤ (q : Int) := by omega
            have hqd : decide (q < K) = false := by simpa using hqK
            have c2 := hbx.cell 2
            simp only [List.getElem?_cons_zero, List.getElem?_cons_succ] at c2
            clear hbd hbe hbx hqK hqe
            go_wp2_with fail
            clear c2 hqd
            obtain ⟨wp, rfl⟩ : ∃ wo : World, wo = wr := ⟨_, rfl⟩
            go_loopw [13, 62] (fun _ q W => ∃ qq : Nat, qq ≤ E.put.length ∧ q = .int .i64 (qq : Int) ∧ Bd b b (out ++ (lf.take K).flatten ++ (E.put.take qq).flatten) W ∧ Below b wo W ∧ Blk W ex [.int .i64 (K : Int), .int .i64 (D : Int), .slice PA E.put.length pc] 43 ∧ b < W.heap.size) (fun _ q _ => E.put.length - (intOf q).toNat)
            case atStart => exact ⟨0, Nat.zero_le _, rfl, by simpa using HBD2.out, HBE2.out, HBX2.out, hbz⟩
            case round =>
              obtain ⟨p, hp, rfl, hbd, hbe, hbx, hbz⟩ := hrel
              have HBD3 := Lib.hid hbd
              have HBE3 := Lib.hid hbe
              have HBX3 := Lib.hid hbx
              by_cases hpK : p < E.put.length
              · have hPt : TxtAt wr 0 b PA E.put := (HPT.out.wide (Nat.le_refl _) hbw).below hbe (Nat.le_refl _)
                obtain ⟨lb, lo, lA, _, hlb, hlc⟩ := hPt.at_ hpK
                subst lA
                have hpi : (p : Int) < (E.put.length : Int) := by omega
                have hfq := flat_take E.put p hpK
                have hle : (E.put.take p).flatten.length + (E.put[p]'hpK).length ≤ E.put.flatten.length := by
                  have h5 := congrArg List.length hfq
                  rw [List.length_append] at h5
                  have := flat_part E.put (p + 1)
                  omega
                have HFQ := Lib.hid hfq
                have HLE := Lib.hid hle
                clear hbd hbe hbx hfq hle hPt
                generalize E.put[p]'hpK = l at *
                go_wp2_with (go_at_call 33; refine (HBD3.out.write l (by have := HLE.out; have := HBIG.out; simp only [List.length_append]; omega) (by omega)).mono ?_; rintro e w5 ⟨rfl, hbd5, hbe5, hbk5⟩; have HBD5 := Lib.hid hbd5; have HBE5 := Lib.hid hbe5; have HBK5 := Lib.hid (hbk5 _ _ _ HBX3.out (by decide) (by decide)); clear hbd5 hbe5 hbk5)
                go_roundw
                case rel => exact ⟨p + 1, by omega, by go_num, by rw [HFQ.out, ← List.append_assoc]; exact HBD5.out, HBE3.out.trans HBE5.out, HBK5.out, by have := HBE5.out.size; omega⟩
                case measure => simp [intOf]; omega
              · have hpe : p = E.put.length := by omega
                rw [hpe, List.take_length] at HBD3
                have hpi : (E.put.length : Int) ≤ (p : Int) := by omega
                have hpd : decide (p < E.put.length) = false := by simpa using hpK
                have c0 := hbx.cell 0
                have c1 := hbx.cell 1
                simp only [List.getElem?_cons_zero, List.getElem?_cons_succ] at c0 c1
                have HTX3 := Lib.hid (HCUT.out _ (HTX.out.below hbe (Nat.le_refl _)))
                have HBE4 := Lib.hid (HBE.out.trans (hbe.mono hbw))
                have hs2 := HSL2'.out
                have hsm : (K : Int) + (D : Int) ≤ (lf.length : Int) := by omega
                clear hbd hbe hbx hpK hpe
                go_wp2_with fail
                go_roundw
                case rel =>
                  refine ⟨j + 1, lf.drop (K + D), A2, c' - (K + D), out ++ (lf.take K).flatten ++ E.put.flatten, by omega, by go_num, by rw [List.length_drop], by rw [List.length_drop]; omega, by rw [List.length_drop]; omega, HTX3.out, HBD3.out, hbz, HBE4.out, ?_, HNEXT.out⟩
                  rw [HAP.out, HDR.out, HG.out, Option.map_map]
                  congr 1
                  funext r
                  simp [List.append_assoc]
                case measure => simp [intOf]; omega
    · have hje : j = es.length := by omega
      rw [hje, List.drop_length] at hap
      have hji : (es.length : Int) ≤ (j : Int) := by omega
      have hjd : decide (j < es.length) = false := by simpa using hlt
      have HAP := Lib.hid hap
      have HBD := Lib.hid hbd
      have HBE := Lib.hid hbe
      clear hap htx hbd hbe H0 hje
      by_cases hlf : lf = []
      · subst hlf
        have hr : applyB L es = some out := by rw [HAP.out]; simp [applyB]
        have HR := Lib.hid hr
        clear hr
        go_wp2_with (go_at_call 34; refine (Try.Builder_String_any b b out _ HBD.out (by omega)).mono ?_; rintro e w5 ⟨rfl, hbe5⟩; have HB5 := Lib.hid hbe5; clear hbe5)
        go_ret2
        refine ⟨?_, HBE.out.trans (HB5.out.mono hbw)⟩
        rw [HR.out]
        rfl
      · have hl0 : 0 < lf.length := List.length_pos_iff.2 hlf
        have hr : applyB L es = none := by rw [HAP.out]; unfold applyB; rw [if_neg hlf]; rfl
        have HR := Lib.hid hr
        clear hr
        go_wp2_with fail
        go_ret2
        exact ⟨by rw [HR.out]; rfl, HBE.out⟩
end Go.Proofs.Ytakolehlaejhfaa
