/- The walk of the reference's Quote. -/
import Derived.Test.YtcjnlbelgmcpeaaDoorRefStrAll
import Derived.Test.YtcjnlbelgmcpeaaDoorRefStrQuotePlain
namespace Go.Proofs.YtcjnlbelgmcpeaaDoor
open Go.RowKit
set_option maxRecDepth 100000
set_option linter.unusedVariables false
set_option linter.unusedSimpArgs false

def cR (s : ByteArray) (c : Nat) (rs : List RPt) : Nat := cntQ s c (rs.map RPt.p)
theorem cR_snoc (s : ByteArray) (c : Nat) (rs : List RPt) (r : RPt) : cR s c (rs ++ [r]) = cR s c rs + if isQ s r.p && chQ s r.p == c then 1 else 0 := by
  unfold cR
  rw [List.map_append, List.map_singleton, cntQ_snoc]
theorem cR_len (s : ByteArray) (c : Nat) (rs : List RPt) : cR s c rs ≤ rs.length := by
  have := cntQ_len s c (rs.map RPt.p)
  rw [List.length_map] at this
  exact this
theorem cR_yes {s : ByteArray} {c : Nat} {rs : List RPt} {r : RPt} (h : (isQ s r.p && chQ s r.p == c) = true) : cR s c (rs ++ [r]) = cR s c rs + 1 := by rw [cR_snoc, h]; rfl
theorem cR_no {s : ByteArray} {c : Nat} {rs : List RPt} {r : RPt} (h : (isQ s r.p && chQ s r.p == c) = false) : cR s c (rs ++ [r]) = cR s c rs := by rw [cR_snoc, h]; rfl
def bR (s : ByteArray) (Q : Nat) (rs : List RPt) : List UInt8 := bodyQ s Q (rs.map RPt.p)
theorem bR_snoc (s : ByteArray) (Q : Nat) (rs : List RPt) (r : RPt) : bR s Q (rs ++ [r]) = bR s Q rs ++ pieceQ s Q r.p := by
  unfold bR
  rw [List.map_append, List.map_singleton, bodyQ_snoc]
theorem bR_len (s : ByteArray) (Q b : Nat) (hb : s.size + 2 ≤ b) (rs : List RPt) (h : ∀ r ∈ rs, PtOk s r.p) : (bR s Q rs).length ≤ rs.length * b := by
  have := bodyQ_len s Q b hb (rs.map RPt.p) (fun p hp => by
    obtain ⟨r, hr, rfl⟩ := List.mem_map.1 hp
    exact h r hr)
  rw [List.length_map] at this
  exact this

set_option maxHeartbeats 32000000 in
theorem rquote_try (s : ByteArray) (single : Bool) (w : World) (hs : s.size ≤ 1048580) (ps : List Pt) (hp : partsB s = .ok ps) :
    Calls Tryd.prog 19 #[.string s, .bool single] w fun e w' => e = .returned (.tuple #[.string ⟨(quoteB s ps single).toArray⟩, .int .i64 0]) ∧ Below w.heap.size w w' := by
  have HC := Lib.hid (rparts_any s w hs)
  have HOK := Lib.hid (partsB_ok hp)
  have HPC := Lib.hid (partsB_piece hp)
  have HP := Lib.hid hp
  clear hp
  go_enter Tryd.func19, Tryd.ntmps19
  cases single
  · go_wp2_with (go_at_call 21; refine HC.out.mono ?_; rintro e w1 ⟨he, hb1⟩; unfold RPartsOut at he; rw [HP.out] at he; obtain ⟨v, rs, rfl, hm, ho, hgd, hl⟩ := he; obtain ⟨a, cap, rfl, hv⟩ := own_rparts ho; have HM := Lib.hid hm; have HO := Lib.hid ho; have HV := Lib.hid hv; have HGD := Lib.hid hgd; have HB1 := Lib.hid hb1; clear ho hv hgd hm hb1)
    have HRF : Hid (∀ r ∈ rs, RFacts s r.p ∧ r.p.esc = (byt s r.p.fr == 92) ∧ PtOk s r.p ∧ r.p.fr < s.size) := Lib.hid (fun r hr => by
      have hin : r.p ∈ ps := by rw [← HM.out]; exact List.mem_map_of_mem hr
      obtain ⟨h1, h2, h3⟩ := HPC.out _ hin
      exact ⟨rfacts h1 h2 h3 (HOK.out _ hin), h2, HOK.out _ hin, h3⟩)
    have HE1 : Hid (∃ A : Nat, A = 34) := Lib.hid ⟨_, rfl⟩
    have HE2 : Hid (∃ O : Nat, O = 39) := Lib.hid ⟨_, rfl⟩
    obtain ⟨A, hA⟩ := HE1.out
    obtain ⟨O, hO⟩ := HE2.out
    have HA : Hid (Value.int .i64 34 = Value.int .i64 (A : Int)) := Lib.hid (by rw [hA]; rfl)
    have HOO : Hid (Value.int .i64 39 = Value.int .i64 (O : Int)) := Lib.hid (by rw [hO]; rfl)
    have HAO : Hid (A = 34 ∧ O = 39) := Lib.hid ⟨hA, hO⟩
    rw [HA.out, HOO.out]
    clear hA hO HA HOO HE1 HE2
    go_loopw [10, 11, 12] (fun x y i wr => ∃ k : Nat, k ≤ rs.length ∧ i = .int .i64 (k : Int) ∧ x = .int .i64 (cR s A (rs.take k) : Int) ∧ y = .int .i64 (cR s O (rs.take k) : Int) ∧ Below w1.heap.size w1 wr) (fun _ _ i _ => rs.length - (intOf i).toNat)
    case atStart => exact ⟨0, by omega, rfl, rfl, rfl, Below.refl _ w1⟩
    case round =>
      obtain ⟨k, hk, rfl, rfl, rfl, hbr⟩ := hrel
      have hc1 := cR_len s A (rs.take k)
      have hc2 := cR_len s O (rs.take k)
      have htl : (rs.take k).length ≤ k := List.length_take_le _ _
      by_cases hlt : k < rs.length
      · obtain ⟨g, rfl, hg1, hg2⟩ := HV.out (by omega)
        obtain ⟨c0, c1, c2, c3⟩ := own_rpart_cells (own_below HO.out hbr) k hlt
        obtain ⟨hu, hch⟩ := (HGD.out rs[k] (List.getElem_mem hlt)).below hbr
        obtain ⟨hrf, hesc, hok, hfr⟩ := HRF.out rs[k] (List.getElem_mem hlt)
        have HT := Lib.hid (take_succ_of rs k hlt)
        generalize rs[k] = r at *
        obtain ⟨p, ch, a, n⟩ := r
        simp only at c0 c1 c2 c3 hu hch hrf hesc hok hfr
        have HRF1 := Lib.hid hrf
        have hfl := hok.lt
        have hth := hok.hi
        by_cases h1 : p.to = p.fr + 1
        · obtain ⟨hu1, hv1, hc0, he0, hq0⟩ := hrf.one h1
          have hA1 := hit_one hrf h1 A (by have := HAO.out; omega)
          have hO1 := hit_one hrf h1 O (by have := HAO.out; omega)
          rw [hu1] at hu
          rcases hu with ⟨hx, hy⟩ | ⟨q, hx, hy, hz, _⟩
          · simp at hy
          simp only [Value.slice.injEq, List.length_singleton] at hx
          obtain ⟨rfl, rfl, _⟩ := hx
          have u0 := hz.cell 0
          simp [intCells] at u0
          have g1 : ((p.to : Int) == (p.fr : Int) + 1) = true := by rw [beq_iff_eq]; omega
          rw [hch, hc0] at c3
          rw [hv1] at u0
          have g0 : ((0 : Int) == (A : Int)) = false := by rw [beq_eq_false_iff_ne]; have := HAO.out; omega
          have g0' : ((0 : Int) == (O : Int)) = false := by rw [beq_eq_false_iff_ne]; have := HAO.out; omega
          clear hu1 hv1 hc0 he0 hq0 hrf hesc hok hch hz hy
          by_cases hbA : byt s p.fr = A
          · have HS1 := Lib.hid (cR_yes (rs := rs.take k) (r := ⟨p, ch, some ⟨q, 0, none⟩, 1⟩) (by rw [hA1, hbA]; simp))
            have HS2 := Lib.hid (cR_no (rs := rs.take k) (r := ⟨p, ch, some ⟨q, 0, none⟩, 1⟩) (by rw [hO1, hbA]; have := HAO.out; simp; omega))
            have g2 : ((byt s p.fr : Int) == (A : Int)) = true := by rw [beq_iff_eq]; omega
            have g3 : ((byt s p.fr : Int) == (O : Int)) = false := by rw [beq_eq_false_iff_ne]; have := HAO.out; omega
            clear hA1 hO1 hbA h1
            go_wp2_with fail
            go_quiet (fail)
            go_wp2_with fail
            go_roundw
            case rel => exact ⟨k + 1, by omega, by go_num, by rw [HT.out, HS1.out]; go_num, by rw [HT.out, HS2.out], below_drewN hbr _⟩
            case measure => simp [intOf]; omega
          · have HS1 := Lib.hid (cR_no (rs := rs.take k) (r := ⟨p, ch, some ⟨q, 0, none⟩, 1⟩) (by rw [hA1]; simpa using hbA))
            have g2 : ((byt s p.fr : Int) == (A : Int)) = false := by rw [beq_eq_false_iff_ne]; omega
            by_cases hbO : byt s p.fr = O
            · have HS2 := Lib.hid (cR_yes (rs := rs.take k) (r := ⟨p, ch, some ⟨q, 0, none⟩, 1⟩) (by rw [hO1, hbO]; simp))
              have g3 : ((byt s p.fr : Int) == (O : Int)) = true := by rw [beq_iff_eq]; omega
              clear hA1 hO1 hbA hbO h1
              go_wp2_with fail
              go_quiet (fail)
              go_wp2_with fail
              go_roundw
              case rel => exact ⟨k + 1, by omega, by go_num, by rw [HT.out, HS1.out], by rw [HT.out, HS2.out]; go_num, below_drewN hbr _⟩
              case measure => simp [intOf]; omega
            · have HS2 := Lib.hid (cR_no (rs := rs.take k) (r := ⟨p, ch, some ⟨q, 0, none⟩, 1⟩) (by rw [hO1]; simpa using hbO))
              have g3 : ((byt s p.fr : Int) == (O : Int)) = false := by rw [beq_eq_false_iff_ne]; omega
              clear hA1 hO1 hbA hbO h1
              go_wp2_with fail
              go_quiet (fail)
              go_wp2_with fail
              go_roundw
              case rel => exact ⟨k + 1, by omega, by go_num, by rw [HT.out, HS1.out], by rw [HT.out, HS2.out], below_drewN hbr _⟩
              case measure => simp [intOf]; omega
        · have hA1 := hit_more hrf h1 A (by have := HAO.out; omega)
          have hO1 := hit_more hrf h1 O (by have := HAO.out; omega)
          have g1 : ((p.to : Int) == (p.fr : Int) + 1) = false := by rw [beq_eq_false_iff_ne]; omega
          rw [← hch] at hA1 hO1
          clear hu hrf hesc hok hch
          by_cases hbA : ch = (A : Int)
          · have HS1 := Lib.hid (cR_yes (rs := rs.take k) (r := ⟨p, ch, a, n⟩) (by rw [hA1]; simpa using hbA))
            have HS2 := Lib.hid (cR_no (rs := rs.take k) (r := ⟨p, ch, a, n⟩) (by rw [hO1]; have := HAO.out; simp; omega))
            have g2 : (ch == (A : Int)) = true := by rw [beq_iff_eq]; exact hbA
            have g3 : (ch == (O : Int)) = false := by rw [beq_eq_false_iff_ne]; have := HAO.out; omega
            clear hA1 hO1 hbA h1
            go_wp2_with fail
            go_quiet (fail)
            go_wp2_with fail
            go_roundw
            case rel => exact ⟨k + 1, by omega, by go_num, by rw [HT.out, HS1.out]; go_num, by rw [HT.out, HS2.out], below_drewN hbr _⟩
            case measure => simp [intOf]; omega
          · have HS1 := Lib.hid (cR_no (rs := rs.take k) (r := ⟨p, ch, a, n⟩) (by rw [hA1]; simpa using hbA))
            have g2 : (ch == (A : Int)) = false := by rw [beq_eq_false_iff_ne]; exact hbA
            by_cases hbO : ch = (O : Int)
            · have HS2 := Lib.hid (cR_yes (rs := rs.take k) (r := ⟨p, ch, a, n⟩) (by rw [hO1]; simpa using hbO))
              have g3 : (ch == (O : Int)) = true := by rw [beq_iff_eq]; exact hbO
              clear hA1 hO1 hbA hbO h1
              go_wp2_with fail
              go_quiet (fail)
              go_wp2_with fail
              go_roundw
              case rel => exact ⟨k + 1, by omega, by go_num, by rw [HT.out, HS1.out], by rw [HT.out, HS2.out]; go_num, below_drewN hbr _⟩
              case measure => simp [intOf]; omega
            · have HS2 := Lib.hid (cR_no (rs := rs.take k) (r := ⟨p, ch, a, n⟩) (by rw [hO1]; simpa using hbO))
              have g3 : (ch == (O : Int)) = false := by rw [beq_eq_false_iff_ne]; exact hbO
              clear hA1 hO1 hbA hbO h1
              go_wp2_with fail
              go_quiet (fail)
              go_wp2_with fail
              go_roundw
              case rel => exact ⟨k + 1, by omega, by go_num, by rw [HT.out, HS1.out], by rw [HT.out, HS2.out], below_drewN hbr _⟩
              case measure => simp [intOf]; omega
      · have hke : rs.take k = rs := List.take_of_length_le (by omega)
        have HPK : Hid (pickQ s ps false = if cR s O rs < cR s A rs then O else A) := Lib.hid (by rw [HAO.out.1, HAO.out.2]; unfold cR; rw [HM.out]; rfl)
        rw [hke] at hc1 hc2
        rw [hke]
        have hA8 : A < 256 := by have := HAO.out; omega
        have hO8 : O < 256 := by have := HAO.out; omega
        generalize cR s A rs = nA at *
        generalize cR s O rs = nO at *
        clear hke htl
        by_cases hcmp : nO < nA
        · have HPQ : Hid (pickQ s ps false = O) := Lib.hid (by rw [HPK.out, if_pos hcmp])
          have HQO : Hid ((O = 39 ∧ A = 34) ∨ (O = 34 ∧ A = 39)) := Lib.hid (by have := HAO.out; omega)
          clear HPK
          go_wp2_with fail
          have HLIT := Lib.hid (show World.ownsRow (wr.alloc (.cells #[.int .u8 (O : Int)] 5)) w1.heap.size 5 1 (.slice (some ⟨wr.heap.size, 0, none⟩) 1 1) (1 + (bR s O (rs.take 0)).length) (Lib.byteCells (Nat.toUInt8 O :: bR s O (rs.take 0))) from by
            have h := World.ownsRow_lit (base := w1.heap.size) (e := 5) (size := 1) wr #[.int .u8 (O : Int)] 1 hbr.size (by unfold maxLen; omega) rfl
            have e0 : bR s O (rs.take 0) = [] := by simp [bR, bodyQ]
            have e1 : (#[Value.int .u8 (O : Int)] : Array Value).toList = Lib.byteCells [Nat.toUInt8 O] := bytes_one O (by omega)
            rw [e0]
            rw [e1] at h
            exact h)
          have HLB := Lib.hid (hbr.alloc hbr.size (.cells #[.int .u8 (O : Int)] 5))
          have HB9 := Lib.hid (fun k => bR_len s O 1048590 (by omega) (rs.take k) (fun r hr => (HRF.out r (List.mem_of_mem_take hr)).2.2.1))
          clear hbr
          go_loopw [14, 15] (fun out i wr => ∃ k : Nat, k ≤ rs.length ∧ i = .int .i64 (k : Int) ∧ wr.ownsRow w1.heap.size 5 1 out (1 + (bR s O (rs.take k)).length) (Lib.byteCells (Nat.toUInt8 O :: bR s O (rs.take k))) ∧ Below w1.heap.size w1 wr) (fun _ i _ => rs.length - (intOf i).toNat)
          case atStart => exact ⟨0, by omega, rfl, HLIT.out, HLB.out⟩
          case round =>
            obtain ⟨k', hk', rfl, hown, hbr⟩ := hrel
            have HOW2 := Lib.hid hown
            clear hown
            have hlen := HB9.out k'
            have htl : (rs.take k').length ≤ k' := List.length_take_le _ _
            have hlen2 : (bR s O (rs.take k')).length ≤ k' * 1048590 := Nat.le_trans hlen (Nat.mul_le_mul_right _ htl)
            clear hlen
            have hzr := hbr.size
            by_cases hlt' : k' < rs.length
            · obtain ⟨g, rfl, hg1, hg2⟩ := HV.out (by omega)
              obtain ⟨c0, c1, c2, c3⟩ := own_rpart_cells (own_below HO.out hbr) k' hlt'
              obtain ⟨hu, hch⟩ := HGD.out rs[k'] (List.getElem_mem hlt')
              obtain ⟨hrf, hesc, hok, hfr⟩ := HRF.out rs[k'] (List.getElem_mem hlt')
              have HT := Lib.hid (take_succ_of rs k' hlt')
              generalize rs[k'] = r at *
              obtain ⟨p, ch, a, n⟩ := r
              simp only at c0 c1 c2 c3 hu hch hrf hesc hok hfr
              have hfl := hok.lt
              have hth := hok.hi
              have hby := byt_eq s p.fr hfr
              clear hu
              by_cases hcO : ch = (A : Int)
              · have HPC2 := Lib.hid (piece_A hrf HQO.out (by rw [← hch]; exact hcO))
                have g2 : (ch == (A : Int)) = true := by rw [beq_iff_eq]; exact hcO
                clear hrf hesc hok hch hcO hby
                go_wp2_with (
                  at_builtin
                  refine wpList_append_blk rfl (.tmp 129) (.tmp 132) _ _ 1 1 rfl byteE w1 wr w1.heap.size hbr hbr.size (((Below.refl wr.heap.size wr).alloc (Nat.le_refl _) _).alloc (by simp) _) u14 (1 + (bR s O (rs.take k')).length) (Lib.byteCells (Nat.toUInt8 O :: bR s O (rs.take k'))) rfl HOW2.out _ 1 [.int .u8 (A : Int)] rfl (Blk.new' [.int .u8 (A : Int)] _ (by simp)) rfl (fun u hu => by simp at hu; subst hu; rfl) (by unfold maxLen; omega) (by omega) ?_
                  intro v' W' ho' hb' hg' hlt9
                  have HO2 := Lib.hid ho'
                  clear ho')
                go_roundw
                case rel => exact ⟨k' + 1, by omega, by go_num, bytes_snoc HO2.out (by rw [HT.out, bR_snoc, HPC2.out]) (bytes_one A (by omega)) rfl, hb'⟩
                case measure => simp [intOf]; omega
              · have g2 : (ch == (A : Int)) = false := by rw [beq_eq_false_iff_ne]; exact hcO
                by_cases hbQ : byt s p.fr = O
                · have HPC2 := Lib.hid (piece_B hrf (by have := HQO.out; omega) hbQ)
                  have g3 : (((s[p.fr]'hfr).toNat : Int) == (O : Int)) = true := by rw [beq_iff_eq]; omega
                  clear hrf hesc hok hch hcO hby hbQ
                  go_wp2_with (
                    at_builtin
                    refine wpList_append_blk rfl (.tmp 142) (.tmp 145) _ _ 1 1 rfl byteE w1 wr w1.heap.size hbr hbr.size (((Below.refl wr.heap.size wr).alloc (Nat.le_refl _) _).alloc (by simp) _) u14 (1 + (bR s O (rs.take k')).length) (Lib.byteCells (Nat.toUInt8 O :: bR s O (rs.take k'))) rfl HOW2.out _ 2 [.int .u8 92, .int .u8 (O : Int)] rfl (Blk.new' [.int .u8 92, .int .u8 (O : Int)] _ (by simp)) rfl (fun u hu => by simp at hu; rcases hu with rfl | rfl <;> rfl) (by unfold maxLen; omega) (by omega) ?_
                    intro v' W' ho' hb' hg' hlt9
                    have HO2 := Lib.hid ho'
                    clear ho')
                  go_roundw
                  case rel => exact ⟨k' + 1, by omega, by go_num, bytes_snoc HO2.out (by rw [HT.out, bR_snoc, HPC2.out]) (bytes_two O (by omega)) rfl, hb'⟩
                  case measure => simp [intOf]; omega
                · have HPC2 : Hid (pieceQ s O p = (s.extract p.fr p.to).data.toList) := Lib.hid (by rw [piece_C hrf hesc hok HQO.out (by rw [← hch]; exact hcO) hbQ, cutB_eq s p.fr p.to hth])
                  have g3 : (((s[p.fr]'hfr).toNat : Int) == (O : Int)) = false := by rw [beq_eq_false_iff_ne]; omega
                  have HSZ : Hid ((s.extract p.fr p.to).size = (s.extract p.fr p.to).data.toList.length) := Lib.hid (size_list _)
                  have hsz : (s.extract p.fr p.to).size ≤ s.size := by rw [HSZ.out, cutB_eq s p.fr p.to hth, cutB_len s p.fr p.to hth]; omega
                  have hsl : ∀ W, (Instr.slice 9 (.string s) (some (.int .i64 (p.fr : Int))) (some (.int .i64 (p.to : Int))) none).run Tryd.prog W = .ok (.string (s.extract p.fr p.to)) W := fun W => by
                    have := run_slice_string (P := Tryd.prog) (w := W) 9 s .i64 .i64 (p.fr : Int) (p.to : Int) Tryd.underlying9 (by omega) (by omega) (by omega)
                    simpa using this
                  clear hrf hesc hok hch hcO hby hbQ
                  go_wp2_with (
                    at_builtin
                    refine wpList_append_str rfl (.tmp 116) (.tmp 122) _ _ _ rfl byteE2 Tryd.underlying9 w1 wr w1.heap.size hbr hbr.size ((Below.refl wr.heap.size wr).alloc (Nat.le_refl _) _) u14 (1 + (bR s O (rs.take k')).length) (Nat.toUInt8 O :: bR s O (rs.take k')) rfl HOW2.out (s.extract p.fr p.to) rfl (by unfold maxLen; omega) (by omega) ?_
                    intro v' W' ho' hb' hg' hlt9
                    have HO2 := Lib.hid ho'
                    clear ho')
                  go_roundw
                  case rel => exact ⟨k' + 1, by omega, by go_num, bytes_str HO2.out (by rw [HT.out, bR_snoc, HPC2.out]) HSZ.out, hb'⟩
                  case measure => simp [intOf]; omega
            · have hke' : rs.take k' = rs := List.take_of_length_le (by omega)
              rw [hke'] at HOW2 hlen2
              clear hke' htl
              have HPB := Lib.hid (show quoteB s ps _ = _ from by unfold quoteB; rw [HPQ.out, ← HM.out])
              go_wp2_with (
                at_builtin
                refine wpList_append_blk rfl (.tmp 147) (.tmp 150) _ _ 1 1 rfl byteE w1 wr w1.heap.size hbr hbr.size ((Below.refl wr.heap.size wr).alloc (Nat.le_refl _) _) u14 (1 + (bR s O rs).length) (Lib.byteCells (Nat.toUInt8 O :: bR s O rs)) rfl HOW2.out _ 1 [.int .u8 (O : Int)] rfl (Blk.new' [.int .u8 (O : Int)] _ (by simp)) rfl (fun u hu => by simp at hu; subst hu; rfl) (by unfold maxLen; omega) (by omega) ?_
                intro v' W' ho' hb' hg' hlt9
                have hown3 := bytes_end ho' (by omega)
                obtain ⟨g3, cap3, he3, hcells⟩ := own_bytes hown3 (by simp)
                have hcv := run_convert_bytes_back (P := Tryd.prog) W' 58 9 5 ⟨g3, 0, none⟩ cap3 (Nat.toUInt8 O :: (bR s O rs ++ [Nat.toUInt8 O])) Tryd.underlying58 Tryd.underlying5 Tryd.underlying9 hcells
                obtain ⟨N, hN⟩ : ∃ N, (Nat.toUInt8 O :: (bR s O rs ++ [Nat.toUInt8 O])).length = N := ⟨_, rfl⟩
                rw [hN] at he3 hcv
                subst he3
                clear hown3 hcells ho' hN)
              go_ret2
              exact ⟨by rw [HPB.out]; rfl, HB1.out.trans (hb'.mono HB1.out.size)⟩
        · have HPQ : Hid (pickQ s ps false = A) := Lib.hid (by rw [HPK.out, if_neg hcmp])
          have HQO : Hid ((A = 39 ∧ O = 34) ∨ (A = 34 ∧ O = 39)) := Lib.hid (by have := HAO.out; omega)
          clear HPK
          go_wp2_with fail
          have HLIT := Lib.hid (show World.ownsRow (wr.alloc (.cells #[.int .u8 (A : Int)] 5)) w1.heap.size 5 1 (.slice (some ⟨wr.heap.size, 0, none⟩) 1 1) (1 + (bR s A (rs.take 0)).length) (Lib.byteCells (Nat.toUInt8 A :: bR s A (rs.take 0))) from by
            have h := World.ownsRow_lit (base := w1.heap.size) (e := 5) (size := 1) wr #[.int .u8 (A : Int)] 1 hbr.size (by unfold maxLen; omega) rfl
            have e0 : bR s A (rs.take 0) = [] := by simp [bR, bodyQ]
            have e1 : (#[Value.int .u8 (A : Int)] : Array Value).toList = Lib.byteCells [Nat.toUInt8 A] := bytes_one A (by omega)
            rw [e0]
            rw [e1] at h
            exact h)
          have HLB := Lib.hid (hbr.alloc hbr.size (.cells #[.int .u8 (A : Int)] 5))
          have HB9 := Lib.hid (fun k => bR_len s A 1048590 (by omega) (rs.take k) (fun r hr => (HRF.out r (List.mem_of_mem_take hr)).2.2.1))
          clear hbr
          go_loopw [14, 15] (fun out i wr => ∃ k : Nat, k ≤ rs.length ∧ i = .int .i64 (k : Int) ∧ wr.ownsRow w1.heap.size 5 1 out (1 + (bR s A (rs.take k)).length) (Lib.byteCells (Nat.toUInt8 A :: bR s A (rs.take k))) ∧ Below w1.heap.size w1 wr) (fun _ i _ => rs.length - (intOf i).toNat)
          case atStart => exact ⟨0, by omega, rfl, HLIT.out, HLB.out⟩
          case round =>
            obtain ⟨k', hk', rfl, hown, hbr⟩ := hrel
            have HOW2 := Lib.hid hown
            clear hown
            have hlen := HB9.out k'
            have htl : (rs.take k').length ≤ k' := List.length_take_le _ _
            have hlen2 : (bR s A (rs.take k')).length ≤ k' * 1048590 := Nat.le_trans hlen (Nat.mul_le_mul_right _ htl)
            clear hlen
            have hzr := hbr.size
            by_cases hlt' : k' < rs.length
            · obtain ⟨g, rfl, hg1, hg2⟩ := HV.out (by omega)
              obtain ⟨c0, c1, c2, c3⟩ := own_rpart_cells (own_below HO.out hbr) k' hlt'
              obtain ⟨hu, hch⟩ := HGD.out rs[k'] (List.getElem_mem hlt')
              obtain ⟨hrf, hesc, hok, hfr⟩ := HRF.out rs[k'] (List.getElem_mem hlt')
              have HT := Lib.hid (take_succ_of rs k' hlt')
              generalize rs[k'] = r at *
              obtain ⟨p, ch, a, n⟩ := r
              simp only at c0 c1 c2 c3 hu hch hrf hesc hok hfr
              have hfl := hok.lt
              have hth := hok.hi
              have hby := byt_eq s p.fr hfr
              clear hu
              by_cases hcO : ch = (O : Int)
              · have HPC2 := Lib.hid (piece_A hrf HQO.out (by rw [← hch]; exact hcO))
                have g2 : (ch == (O : Int)) = true := by rw [beq_iff_eq]; exact hcO
                clear hrf hesc hok hch hcO hby
                go_wp2_with (
                  at_builtin
                  refine wpList_append_blk rfl (.tmp 129) (.tmp 132) _ _ 1 1 rfl byteE w1 wr w1.heap.size hbr hbr.size (((Below.refl wr.heap.size wr).alloc (Nat.le_refl _) _).alloc (by simp) _) u14 (1 + (bR s A (rs.take k')).length) (Lib.byteCells (Nat.toUInt8 A :: bR s A (rs.take k'))) rfl HOW2.out _ 1 [.int .u8 (O : Int)] rfl (Blk.new' [.int .u8 (O : Int)] _ (by simp)) rfl (fun u hu => by simp at hu; subst hu; rfl) (by unfold maxLen; omega) (by omega) ?_
                  intro v' W' ho' hb' hg' hlt9
                  have HO2 := Lib.hid ho'
                  clear ho')
                go_roundw
                case rel => exact ⟨k' + 1, by omega, by go_num, bytes_snoc HO2.out (by rw [HT.out, bR_snoc, HPC2.out]) (bytes_one O (by omega)) rfl, hb'⟩
                case measure => simp [intOf]; omega
              · have g2 : (ch == (O : Int)) = false := by rw [beq_eq_false_iff_ne]; exact hcO
                by_cases hbQ : byt s p.fr = A
                · have HPC2 := Lib.hid (piece_B hrf (by have := HQO.out; omega) hbQ)
                  have g3 : (((s[p.fr]'hfr).toNat : Int) == (A : Int)) = true := by rw [beq_iff_eq]; omega
                  clear hrf hesc hok hch hcO hby hbQ
                  go_wp2_with (
                    at_builtin
                    refine wpList_append_blk rfl (.tmp 142) (.tmp 145) _ _ 1 1 rfl byteE w1 wr w1.heap.size hbr hbr.size (((Below.refl wr.heap.size wr).alloc (Nat.le_refl _) _).alloc (by simp) _) u14 (1 + (bR s A (rs.take k')).length) (Lib.byteCells (Nat.toUInt8 A :: bR s A (rs.take k'))) rfl HOW2.out _ 2 [.int .u8 92, .int .u8 (A : Int)] rfl (Blk.new' [.int .u8 92, .int .u8 (A : Int)] _ (by simp)) rfl (fun u hu => by simp at hu; rcases hu with rfl | rfl <;> rfl) (by unfold maxLen; omega) (by omega) ?_
                    intro v' W' ho' hb' hg' hlt9
                    have HO2 := Lib.hid ho'
                    clear ho')
                  go_roundw
                  case rel => exact ⟨k' + 1, by omega, by go_num, bytes_snoc HO2.out (by rw [HT.out, bR_snoc, HPC2.out]) (bytes_two A (by omega)) rfl, hb'⟩
                  case measure => simp [intOf]; omega
                · have HPC2 : Hid (pieceQ s A p = (s.extract p.fr p.to).data.toList) := Lib.hid (by rw [piece_C hrf hesc hok HQO.out (by rw [← hch]; exact hcO) hbQ, cutB_eq s p.fr p.to hth])
                  have g3 : (((s[p.fr]'hfr).toNat : Int) == (A : Int)) = false := by rw [beq_eq_false_iff_ne]; omega
                  have HSZ : Hid ((s.extract p.fr p.to).size = (s.extract p.fr p.to).data.toList.length) := Lib.hid (size_list _)
                  have hsz : (s.extract p.fr p.to).size ≤ s.size := by rw [HSZ.out, cutB_eq s p.fr p.to hth, cutB_len s p.fr p.to hth]; omega
                  have hsl : ∀ W, (Instr.slice 9 (.string s) (some (.int .i64 (p.fr : Int))) (some (.int .i64 (p.to : Int))) none).run Tryd.prog W = .ok (.string (s.extract p.fr p.to)) W := fun W => by
                    have := run_slice_string (P := Tryd.prog) (w := W) 9 s .i64 .i64 (p.fr : Int) (p.to : Int) Tryd.underlying9 (by omega) (by omega) (by omega)
                    simpa using this
                  clear hrf hesc hok hch hcO hby hbQ
                  go_wp2_with (
                    at_builtin
                    refine wpList_append_str rfl (.tmp 116) (.tmp 122) _ _ _ rfl byteE2 Tryd.underlying9 w1 wr w1.heap.size hbr hbr.size ((Below.refl wr.heap.size wr).alloc (Nat.le_refl _) _) u14 (1 + (bR s A (rs.take k')).length) (Nat.toUInt8 A :: bR s A (rs.take k')) rfl HOW2.out (s.extract p.fr p.to) rfl (by unfold maxLen; omega) (by omega) ?_
                    intro v' W' ho' hb' hg' hlt9
                    have HO2 := Lib.hid ho'
                    clear ho')
                  go_roundw
                  case rel => exact ⟨k' + 1, by omega, by go_num, bytes_str HO2.out (by rw [HT.out, bR_snoc, HPC2.out]) HSZ.out, hb'⟩
                  case measure => simp [intOf]; omega
            · have hke' : rs.take k' = rs := List.take_of_length_le (by omega)
              rw [hke'] at HOW2 hlen2
              clear hke' htl
              have HPB := Lib.hid (show quoteB s ps _ = _ from by unfold quoteB; rw [HPQ.out, ← HM.out])
              go_wp2_with (
                at_builtin
                refine wpList_append_blk rfl (.tmp 147) (.tmp 150) _ _ 1 1 rfl byteE w1 wr w1.heap.size hbr hbr.size ((Below.refl wr.heap.size wr).alloc (Nat.le_refl _) _) u14 (1 + (bR s A rs).length) (Lib.byteCells (Nat.toUInt8 A :: bR s A rs)) rfl HOW2.out _ 1 [.int .u8 (A : Int)] rfl (Blk.new' [.int .u8 (A : Int)] _ (by simp)) rfl (fun u hu => by simp at hu; subst hu; rfl) (by unfold maxLen; omega) (by omega) ?_
                intro v' W' ho' hb' hg' hlt9
                have hown3 := bytes_end ho' (by omega)
                obtain ⟨g3, cap3, he3, hcells⟩ := own_bytes hown3 (by simp)
                have hcv := run_convert_bytes_back (P := Tryd.prog) W' 58 9 5 ⟨g3, 0, none⟩ cap3 (Nat.toUInt8 A :: (bR s A rs ++ [Nat.toUInt8 A])) Tryd.underlying58 Tryd.underlying5 Tryd.underlying9 hcells
                obtain ⟨N, hN⟩ : ∃ N, (Nat.toUInt8 A :: (bR s A rs ++ [Nat.toUInt8 A])).length = N := ⟨_, rfl⟩
                rw [hN] at he3 hcv
                subst he3
                clear hown3 hcells ho' hN)
              go_ret2
              exact ⟨by rw [HPB.out]; rfl, HB1.out.trans (hb'.mono HB1.out.size)⟩
  · go_wp2_with (go_at_call 21; refine HC.out.mono ?_; rintro e w1 ⟨he, hb1⟩; unfold RPartsOut at he; rw [HP.out] at he; obtain ⟨v, rs, rfl, hm, ho, hgd, hl⟩ := he; obtain ⟨a, cap, rfl, hv⟩ := own_rparts ho; have HM := Lib.hid hm; have HO := Lib.hid ho; have HV := Lib.hid hv; have HGD := Lib.hid hgd; have HB1 := Lib.hid hb1; clear ho hv hgd hm hb1)
    have HRF : Hid (∀ r ∈ rs, RFacts s r.p ∧ r.p.esc = (byt s r.p.fr == 92) ∧ PtOk s r.p ∧ r.p.fr < s.size) := Lib.hid (fun r hr => by
      have hin : r.p ∈ ps := by rw [← HM.out]; exact List.mem_map_of_mem hr
      obtain ⟨h1, h2, h3⟩ := HPC.out _ hin
      exact ⟨rfacts h1 h2 h3 (HOK.out _ hin), h2, HOK.out _ hin, h3⟩)
    have HE1 : Hid (∃ A : Nat, A = 39) := Lib.hid ⟨_, rfl⟩
    have HE2 : Hid (∃ O : Nat, O = 34) := Lib.hid ⟨_, rfl⟩
    obtain ⟨A, hA⟩ := HE1.out
    obtain ⟨O, hO⟩ := HE2.out
    have HA : Hid (Value.int .i64 39 = Value.int .i64 (A : Int)) := Lib.hid (by rw [hA]; rfl)
    have HOO : Hid (Value.int .i64 34 = Value.int .i64 (O : Int)) := Lib.hid (by rw [hO]; rfl)
    have HAO : Hid (A = 39 ∧ O = 34) := Lib.hid ⟨hA, hO⟩
    rw [HA.out, HOO.out]
    clear hA hO HA HOO HE1 HE2
    go_loopw [10, 11, 12] (fun x y i wr => ∃ k : Nat, k ≤ rs.length ∧ i = .int .i64 (k : Int) ∧ x = .int .i64 (cR s A (rs.take k) : Int) ∧ y = .int .i64 (cR s O (rs.take k) : Int) ∧ Below w1.heap.size w1 wr) (fun _ _ i _ => rs.length - (intOf i).toNat)
    case atStart => exact ⟨0, by omega, rfl, rfl, rfl, Below.refl _ w1⟩
    case round =>
      obtain ⟨k, hk, rfl, rfl, rfl, hbr⟩ := hrel
      have hc1 := cR_len s A (rs.take k)
      have hc2 := cR_len s O (rs.take k)
      have htl : (rs.take k).length ≤ k := List.length_take_le _ _
      by_cases hlt : k < rs.length
      · obtain ⟨g, rfl, hg1, hg2⟩ := HV.out (by omega)
        obtain ⟨c0, c1, c2, c3⟩ := own_rpart_cells (own_below HO.out hbr) k hlt
        obtain ⟨hu, hch⟩ := (HGD.out rs[k] (List.getElem_mem hlt)).below hbr
        obtain ⟨hrf, hesc, hok, hfr⟩ := HRF.out rs[k] (List.getElem_mem hlt)
        have HT := Lib.hid (take_succ_of rs k hlt)
        generalize rs[k] = r at *
        obtain ⟨p, ch, a, n⟩ := r
        simp only at c0 c1 c2 c3 hu hch hrf hesc hok hfr
        have HRF1 := Lib.hid hrf
        have hfl := hok.lt
        have hth := hok.hi
        by_cases h1 : p.to = p.fr + 1
        · obtain ⟨hu1, hv1, hc0, he0, hq0⟩ := hrf.one h1
          have hA1 := hit_one hrf h1 A (by have := HAO.out; omega)
          have hO1 := hit_one hrf h1 O (by have := HAO.out; omega)
          rw [hu1] at hu
          rcases hu with ⟨hx, hy⟩ | ⟨q, hx, hy, hz, _⟩
          · simp at hy
          simp only [Value.slice.injEq, List.length_singleton] at hx
          obtain ⟨rfl, rfl, _⟩ := hx
          have u0 := hz.cell 0
          simp [intCells] at u0
          have g1 : ((p.to : Int) == (p.fr : Int) + 1) = true := by rw [beq_iff_eq]; omega
          rw [hch, hc0] at c3
          rw [hv1] at u0
          have g0 : ((0 : Int) == (A : Int)) = false := by rw [beq_eq_false_iff_ne]; have := HAO.out; omega
          have g0' : ((0 : Int) == (O : Int)) = false := by rw [beq_eq_false_iff_ne]; have := HAO.out; omega
          clear hu1 hv1 hc0 he0 hq0 hrf hesc hok hch hz hy
          by_cases hbA : byt s p.fr = A
          · have HS1 := Lib.hid (cR_yes (rs := rs.take k) (r := ⟨p, ch, some ⟨q, 0, none⟩, 1⟩) (by rw [hA1, hbA]; simp))
            have HS2 := Lib.hid (cR_no (rs := rs.take k) (r := ⟨p, ch, some ⟨q, 0, none⟩, 1⟩) (by rw [hO1, hbA]; have := HAO.out; simp; omega))
            have g2 : ((byt s p.fr : Int) == (A : Int)) = true := by rw [beq_iff_eq]; omega
            have g3 : ((byt s p.fr : Int) == (O : Int)) = false := by rw [beq_eq_false_iff_ne]; have := HAO.out; omega
            clear hA1 hO1 hbA h1
            go_wp2_with fail
            go_quiet (fail)
            go_wp2_with fail
            go_roundw
            case rel => exact ⟨k + 1, by omega, by go_num, by rw [HT.out, HS1.out]; go_num, by rw [HT.out, HS2.out], below_drewN hbr _⟩
            case measure => simp [intOf]; omega
          · have HS1 := Lib.hid (cR_no (rs := rs.take k) (r := ⟨p, ch, some ⟨q, 0, none⟩, 1⟩) (by rw [hA1]; simpa using hbA))
            have g2 : ((byt s p.fr : Int) == (A : Int)) = false := by rw [beq_eq_false_iff_ne]; omega
            by_cases hbO : byt s p.fr = O
            · have HS2 := Lib.hid (cR_yes (rs := rs.take k) (r := ⟨p, ch, some ⟨q, 0, none⟩, 1⟩) (by rw [hO1, hbO]; simp))
              have g3 : ((byt s p.fr : Int) == (O : Int)) = true := by rw [beq_iff_eq]; omega
              clear hA1 hO1 hbA hbO h1
              go_wp2_with fail
              go_quiet (fail)
              go_wp2_with fail
              go_roundw
              case rel => exact ⟨k + 1, by omega, by go_num, by rw [HT.out, HS1.out], by rw [HT.out, HS2.out]; go_num, below_drewN hbr _⟩
              case measure => simp [intOf]; omega
            · have HS2 := Lib.hid (cR_no (rs := rs.take k) (r := ⟨p, ch, some ⟨q, 0, none⟩, 1⟩) (by rw [hO1]; simpa using hbO))
              have g3 : ((byt s p.fr : Int) == (O : Int)) = false := by rw [beq_eq_false_iff_ne]; omega
              clear hA1 hO1 hbA hbO h1
              go_wp2_with fail
              go_quiet (fail)
              go_wp2_with fail
              go_roundw
              case rel => exact ⟨k + 1, by omega, by go_num, by rw [HT.out, HS1.out], by rw [HT.out, HS2.out], below_drewN hbr _⟩
              case measure => simp [intOf]; omega
        · have hA1 := hit_more hrf h1 A (by have := HAO.out; omega)
          have hO1 := hit_more hrf h1 O (by have := HAO.out; omega)
          have g1 : ((p.to : Int) == (p.fr : Int) + 1) = false := by rw [beq_eq_false_iff_ne]; omega
          rw [← hch] at hA1 hO1
          clear hu hrf hesc hok hch
          by_cases hbA : ch = (A : Int)
          · have HS1 := Lib.hid (cR_yes (rs := rs.take k) (r := ⟨p, ch, a, n⟩) (by rw [hA1]; simpa using hbA))
            have HS2 := Lib.hid (cR_no (rs := rs.take k) (r := ⟨p, ch, a, n⟩) (by rw [hO1]; have := HAO.out; simp; omega))
            have g2 : (ch == (A : Int)) = true := by rw [beq_iff_eq]; exact hbA
            have g3 : (ch == (O : Int)) = false := by rw [beq_eq_false_iff_ne]; have := HAO.out; omega
            clear hA1 hO1 hbA h1
            go_wp2_with fail
            go_quiet (fail)
            go_wp2_with fail
            go_roundw
            case rel => exact ⟨k + 1, by omega, by go_num, by rw [HT.out, HS1.out]; go_num, by rw [HT.out, HS2.out], below_drewN hbr _⟩
            case measure => simp [intOf]; omega
          · have HS1 := Lib.hid (cR_no (rs := rs.take k) (r := ⟨p, ch, a, n⟩) (by rw [hA1]; simpa using hbA))
            have g2 : (ch == (A : Int)) = false := by rw [beq_eq_false_iff_ne]; exact hbA
            by_cases hbO : ch = (O : Int)
            · have HS2 := Lib.hid (cR_yes (rs := rs.take k) (r := ⟨p, ch, a, n⟩) (by rw [hO1]; simpa using hbO))
              have g3 : (ch == (O : Int)) = true := by rw [beq_iff_eq]; exact hbO
              clear hA1 hO1 hbA hbO h1
              go_wp2_with fail
              go_quiet (fail)
              go_wp2_with fail
              go_roundw
              case rel => exact ⟨k + 1, by omega, by go_num, by rw [HT.out, HS1.out], by rw [HT.out, HS2.out]; go_num, below_drewN hbr _⟩
              case measure => simp [intOf]; omega
            · have HS2 := Lib.hid (cR_no (rs := rs.take k) (r := ⟨p, ch, a, n⟩) (by rw [hO1]; simpa using hbO))
              have g3 : (ch == (O : Int)) = false := by rw [beq_eq_false_iff_ne]; exact hbO
              clear hA1 hO1 hbA hbO h1
              go_wp2_with fail
              go_quiet (fail)
              go_wp2_with fail
              go_roundw
              case rel => exact ⟨k + 1, by omega, by go_num, by rw [HT.out, HS1.out], by rw [HT.out, HS2.out], below_drewN hbr _⟩
              case measure => simp [intOf]; omega
      · have hke : rs.take k = rs := List.take_of_length_le (by omega)
        have HPK : Hid (pickQ s ps true = if cR s O rs < cR s A rs then O else A) := Lib.hid (by rw [HAO.out.1, HAO.out.2]; unfold cR; rw [HM.out]; rfl)
        rw [hke] at hc1 hc2
        rw [hke]
        have hA8 : A < 256 := by have := HAO.out; omega
        have hO8 : O < 256 := by have := HAO.out; omega
        generalize cR s A rs = nA at *
        generalize cR s O rs = nO at *
        clear hke htl
        by_cases hcmp : nO < nA
        · have HPQ : Hid (pickQ s ps true = O) := Lib.hid (by rw [HPK.out, if_pos hcmp])
          have HQO : Hid ((O = 39 ∧ A = 34) ∨ (O = 34 ∧ A = 39)) := Lib.hid (by have := HAO.out; omega)
          clear HPK
          go_wp2_with fail
          have HLIT := Lib.hid (show World.ownsRow (wr.alloc (.cells #[.int .u8 (O : Int)] 5)) w1.heap.size 5 1 (.slice (some ⟨wr.heap.size, 0, none⟩) 1 1) (1 + (bR s O (rs.take 0)).length) (Lib.byteCells (Nat.toUInt8 O :: bR s O (rs.take 0))) from by
            have h := World.ownsRow_lit (base := w1.heap.size) (e := 5) (size := 1) wr #[.int .u8 (O : Int)] 1 hbr.size (by unfold maxLen; omega) rfl
            have e0 : bR s O (rs.take 0) = [] := by simp [bR, bodyQ]
            have e1 : (#[Value.int .u8 (O : Int)] : Array Value).toList = Lib.byteCells [Nat.toUInt8 O] := bytes_one O (by omega)
            rw [e0]
            rw [e1] at h
            exact h)
          have HLB := Lib.hid (hbr.alloc hbr.size (.cells #[.int .u8 (O : Int)] 5))
          have HB9 := Lib.hid (fun k => bR_len s O 1048590 (by omega) (rs.take k) (fun r hr => (HRF.out r (List.mem_of_mem_take hr)).2.2.1))
          clear hbr
          go_loopw [14, 15] (fun out i wr => ∃ k : Nat, k ≤ rs.length ∧ i = .int .i64 (k : Int) ∧ wr.ownsRow w1.heap.size 5 1 out (1 + (bR s O (rs.take k)).length) (Lib.byteCells (Nat.toUInt8 O :: bR s O (rs.take k))) ∧ Below w1.heap.size w1 wr) (fun _ i _ => rs.length - (intOf i).toNat)
          case atStart => exact ⟨0, by omega, rfl, HLIT.out, HLB.out⟩
          case round =>
            obtain ⟨k', hk', rfl, hown, hbr⟩ := hrel
            have HOW2 := Lib.hid hown
            clear hown
            have hlen := HB9.out k'
            have htl : (rs.take k').length ≤ k' := List.length_take_le _ _
            have hlen2 : (bR s O (rs.take k')).length ≤ k' * 1048590 := Nat.le_trans hlen (Nat.mul_le_mul_right _ htl)
            clear hlen
            have hzr := hbr.size
            by_cases hlt' : k' < rs.length
            · obtain ⟨g, rfl, hg1, hg2⟩ := HV.out (by omega)
              obtain ⟨c0, c1, c2, c3⟩ := own_rpart_cells (own_below HO.out hbr) k' hlt'
              obtain ⟨hu, hch⟩ := HGD.out rs[k'] (List.getElem_mem hlt')
              obtain ⟨hrf, hesc, hok, hfr⟩ := HRF.out rs[k'] (List.getElem_mem hlt')
              have HT := Lib.hid (take_succ_of rs k' hlt')
              generalize rs[k'] = r at *
              obtain ⟨p, ch, a, n⟩ := r
              simp only at c0 c1 c2 c3 hu hch hrf hesc hok hfr
              have hfl := hok.lt
              have hth := hok.hi
              have hby := byt_eq s p.fr hfr
              clear hu
              by_cases hcO : ch = (A : Int)
              · have HPC2 := Lib.hid (piece_A hrf HQO.out (by rw [← hch]; exact hcO))
                have g2 : (ch == (A : Int)) = true := by rw [beq_iff_eq]; exact hcO
                clear hrf hesc hok hch hcO hby
                go_wp2_with (
                  at_builtin
                  refine wpList_append_blk rfl (.tmp 129) (.tmp 132) _ _ 1 1 rfl byteE w1 wr w1.heap.size hbr hbr.size (((Below.refl wr.heap.size wr).alloc (Nat.le_refl _) _).alloc (by simp) _) u14 (1 + (bR s O (rs.take k')).length) (Lib.byteCells (Nat.toUInt8 O :: bR s O (rs.take k'))) rfl HOW2.out _ 1 [.int .u8 (A : Int)] rfl (Blk.new' [.int .u8 (A : Int)] _ (by simp)) rfl (fun u hu => by simp at hu; subst hu; rfl) (by unfold maxLen; omega) (by omega) ?_
                  intro v' W' ho' hb' hg' hlt9
                  have HO2 := Lib.hid ho'
                  clear ho')
                go_roundw
                case rel => exact ⟨k' + 1, by omega, by go_num, bytes_snoc HO2.out (by rw [HT.out, bR_snoc, HPC2.out]) (bytes_one A (by omega)) rfl, hb'⟩
                case measure => simp [intOf]; omega
              · have g2 : (ch == (A : Int)) = false := by rw [beq_eq_false_iff_ne]; exact hcO
                by_cases hbQ : byt s p.fr = O
                · have HPC2 := Lib.hid (piece_B hrf (by have := HQO.out; omega) hbQ)
                  have g3 : (((s[p.fr]'hfr).toNat : Int) == (O : Int)) = true := by rw [beq_iff_eq]; omega
                  clear hrf hesc hok hch hcO hby hbQ
                  go_wp2_with (
                    at_builtin
                    refine wpList_append_blk rfl (.tmp 142) (.tmp 145) _ _ 1 1 rfl byteE w1 wr w1.heap.size hbr hbr.size (((Below.refl wr.heap.size wr).alloc (Nat.le_refl _) _).alloc (by simp) _) u14 (1 + (bR s O (rs.take k')).length) (Lib.byteCells (Nat.toUInt8 O :: bR s O (rs.take k'))) rfl HOW2.out _ 2 [.int .u8 92, .int .u8 (O : Int)] rfl (Blk.new' [.int .u8 92, .int .u8 (O : Int)] _ (by simp)) rfl (fun u hu => by simp at hu; rcases hu with rfl | rfl <;> rfl) (by unfold maxLen; omega) (by omega) ?_
                    intro v' W' ho' hb' hg' hlt9
                    have HO2 := Lib.hid ho'
                    clear ho')
                  go_roundw
                  case rel => exact ⟨k' + 1, by omega, by go_num, bytes_snoc HO2.out (by rw [HT.out, bR_snoc, HPC2.out]) (bytes_two O (by omega)) rfl, hb'⟩
                  case measure => simp [intOf]; omega
                · have HPC2 : Hid (pieceQ s O p = (s.extract p.fr p.to).data.toList) := Lib.hid (by rw [piece_C hrf hesc hok HQO.out (by rw [← hch]; exact hcO) hbQ, cutB_eq s p.fr p.to hth])
                  have g3 : (((s[p.fr]'hfr).toNat : Int) == (O : Int)) = false := by rw [beq_eq_false_iff_ne]; omega
                  have HSZ : Hid ((s.extract p.fr p.to).size = (s.extract p.fr p.to).data.toList.length) := Lib.hid (size_list _)
                  have hsz : (s.extract p.fr p.to).size ≤ s.size := by rw [HSZ.out, cutB_eq s p.fr p.to hth, cutB_len s p.fr p.to hth]; omega
                  have hsl : ∀ W, (Instr.slice 9 (.string s) (some (.int .i64 (p.fr : Int))) (some (.int .i64 (p.to : Int))) none).run Tryd.prog W = .ok (.string (s.extract p.fr p.to)) W := fun W => by
                    have := run_slice_string (P := Tryd.prog) (w := W) 9 s .i64 .i64 (p.fr : Int) (p.to : Int) Tryd.underlying9 (by omega) (by omega) (by omega)
                    simpa using this
                  clear hrf hesc hok hch hcO hby hbQ
                  go_wp2_with (
                    at_builtin
                    refine wpList_append_str rfl (.tmp 116) (.tmp 122) _ _ _ rfl byteE2 Tryd.underlying9 w1 wr w1.heap.size hbr hbr.size ((Below.refl wr.heap.size wr).alloc (Nat.le_refl _) _) u14 (1 + (bR s O (rs.take k')).length) (Nat.toUInt8 O :: bR s O (rs.take k')) rfl HOW2.out (s.extract p.fr p.to) rfl (by unfold maxLen; omega) (by omega) ?_
                    intro v' W' ho' hb' hg' hlt9
                    have HO2 := Lib.hid ho'
                    clear ho')
                  go_roundw
                  case rel => exact ⟨k' + 1, by omega, by go_num, bytes_str HO2.out (by rw [HT.out, bR_snoc, HPC2.out]) HSZ.out, hb'⟩
                  case measure => simp [intOf]; omega
            · have hke' : rs.take k' = rs := List.take_of_length_le (by omega)
              rw [hke'] at HOW2 hlen2
              clear hke' htl
              have HPB := Lib.hid (show quoteB s ps _ = _ from by unfold quoteB; rw [HPQ.out, ← HM.out])
              go_wp2_with (
                at_builtin
                refine wpList_append_blk rfl (.tmp 147) (.tmp 150) _ _ 1 1 rfl byteE w1 wr w1.heap.size hbr hbr.size ((Below.refl wr.heap.size wr).alloc (Nat.le_refl _) _) u14 (1 + (bR s O rs).length) (Lib.byteCells (Nat.toUInt8 O :: bR s O rs)) rfl HOW2.out _ 1 [.int .u8 (O : Int)] rfl (Blk.new' [.int .u8 (O : Int)] _ (by simp)) rfl (fun u hu => by simp at hu; subst hu; rfl) (by unfold maxLen; omega) (by omega) ?_
                intro v' W' ho' hb' hg' hlt9
                have hown3 := bytes_end ho' (by omega)
                obtain ⟨g3, cap3, he3, hcells⟩ := own_bytes hown3 (by simp)
                have hcv := run_convert_bytes_back (P := Tryd.prog) W' 58 9 5 ⟨g3, 0, none⟩ cap3 (Nat.toUInt8 O :: (bR s O rs ++ [Nat.toUInt8 O])) Tryd.underlying58 Tryd.underlying5 Tryd.underlying9 hcells
                obtain ⟨N, hN⟩ : ∃ N, (Nat.toUInt8 O :: (bR s O rs ++ [Nat.toUInt8 O])).length = N := ⟨_, rfl⟩
                rw [hN] at he3 hcv
                subst he3
                clear hown3 hcells ho' hN)
              go_ret2
              exact ⟨by rw [HPB.out]; rfl, HB1.out.trans (hb'.mono HB1.out.size)⟩
        · have HPQ : Hid (pickQ s ps true = A) := Lib.hid (by rw [HPK.out, if_neg hcmp])
          have HQO : Hid ((A = 39 ∧ O = 34) ∨ (A = 34 ∧ O = 39)) := Lib.hid (by have := HAO.out; omega)
          clear HPK
          go_wp2_with fail
          have HLIT := Lib.hid (show World.ownsRow (wr.alloc (.cells #[.int .u8 (A : Int)] 5)) w1.heap.size 5 1 (.slice (some ⟨wr.heap.size, 0, none⟩) 1 1) (1 + (bR s A (rs.take 0)).length) (Lib.byteCells (Nat.toUInt8 A :: bR s A (rs.take 0))) from by
            have h := World.ownsRow_lit (base := w1.heap.size) (e := 5) (size := 1) wr #[.int .u8 (A : Int)] 1 hbr.size (by unfold maxLen; omega) rfl
            have e0 : bR s A (rs.take 0) = [] := by simp [bR, bodyQ]
            have e1 : (#[Value.int .u8 (A : Int)] : Array Value).toList = Lib.byteCells [Nat.toUInt8 A] := bytes_one A (by omega)
            rw [e0]
            rw [e1] at h
            exact h)
          have HLB := Lib.hid (hbr.alloc hbr.size (.cells #[.int .u8 (A : Int)] 5))
          have HB9 := Lib.hid (fun k => bR_len s A 1048590 (by omega) (rs.take k) (fun r hr => (HRF.out r (List.mem_of_mem_take hr)).2.2.1))
          clear hbr
          go_loopw [14, 15] (fun out i wr => ∃ k : Nat, k ≤ rs.length ∧ i = .int .i64 (k : Int) ∧ wr.ownsRow w1.heap.size 5 1 out (1 + (bR s A (rs.take k)).length) (Lib.byteCells (Nat.toUInt8 A :: bR s A (rs.take k))) ∧ Below w1.heap.size w1 wr) (fun _ i _ => rs.length - (intOf i).toNat)
          case atStart => exact ⟨0, by omega, rfl, HLIT.out, HLB.out⟩
          case round =>
            obtain ⟨k', hk', rfl, hown, hbr⟩ := hrel
            have HOW2 := Lib.hid hown
            clear hown
            have hlen := HB9.out k'
            have htl : (rs.take k').length ≤ k' := List.length_take_le _ _
            have hlen2 : (bR s A (rs.take k')).length ≤ k' * 1048590 := Nat.le_trans hlen (Nat.mul_le_mul_right _ htl)
            clear hlen
            have hzr := hbr.size
            by_cases hlt' : k' < rs.length
            · obtain ⟨g, rfl, hg1, hg2⟩ := HV.out (by omega)
              obtain ⟨c0, c1, c2, c3⟩ := own_rpart_cells (own_below HO.out hbr) k' hlt'
              obtain ⟨hu, hch⟩ := HGD.out rs[k'] (List.getElem_mem hlt')
              obtain ⟨hrf, hesc, hok, hfr⟩ := HRF.out rs[k'] (List.getElem_mem hlt')
              have HT := Lib.hid (take_succ_of rs k' hlt')
              generalize rs[k'] = r at *
              obtain ⟨p, ch, a, n⟩ := r
              simp only at c0 c1 c2 c3 hu hch hrf hesc hok hfr
              have hfl := hok.lt
              have hth := hok.hi
              have hby := byt_eq s p.fr hfr
              clear hu
              by_cases hcO : ch = (O : Int)
              · have HPC2 := Lib.hid (piece_A hrf HQO.out (by rw [← hch]; exact hcO))
                have g2 : (ch == (O : Int)) = true := by rw [beq_iff_eq]; exact hcO
                clear hrf hesc hok hch hcO hby
                go_wp2_with (
                  at_builtin
                  refine wpList_append_blk rfl (.tmp 129) (.tmp 132) _ _ 1 1 rfl byteE w1 wr w1.heap.size hbr hbr.size (((Below.refl wr.heap.size wr).alloc (Nat.le_refl _) _).alloc (by simp) _) u14 (1 + (bR s A (rs.take k')).length) (Lib.byteCells (Nat.toUInt8 A :: bR s A (rs.take k'))) rfl HOW2.out _ 1 [.int .u8 (O : Int)] rfl (Blk.new' [.int .u8 (O : Int)] _ (by simp)) rfl (fun u hu => by simp at hu; subst hu; rfl) (by unfold maxLen; omega) (by omega) ?_
                  intro v' W' ho' hb' hg' hlt9
                  have HO2 := Lib.hid ho'
                  clear ho')
                go_roundw
                case rel => exact ⟨k' + 1, by omega, by go_num, bytes_snoc HO2.out (by rw [HT.out, bR_snoc, HPC2.out]) (bytes_one O (by omega)) rfl, hb'⟩
                case measure => simp [intOf]; omega
              · have g2 : (ch == (O : Int)) = false := by rw [beq_eq_false_iff_ne]; exact hcO
                by_cases hbQ : byt s p.fr = A
                · have HPC2 := Lib.hid (piece_B hrf (by have := HQO.out; omega) hbQ)
                  have g3 : (((s[p.fr]'hfr).toNat : Int) == (A : Int)) = true := by rw [beq_iff_eq]; omega
                  clear hrf hesc hok hch hcO hby hbQ
                  go_wp2_with (
                    at_builtin
                    refine wpList_append_blk rfl (.tmp 142) (.tmp 145) _ _ 1 1 rfl byteE w1 wr w1.heap.size hbr hbr.size (((Below.refl wr.heap.size wr).alloc (Nat.le_refl _) _).alloc (by simp) _) u14 (1 + (bR s A (rs.take k')).length) (Lib.byteCells (Nat.toUInt8 A :: bR s A (rs.take k'))) rfl HOW2.out _ 2 [.int .u8 92, .int .u8 (A : Int)] rfl (Blk.new' [.int .u8 92, .int .u8 (A : Int)] _ (by simp)) rfl (fun u hu => by simp at hu; rcases hu with rfl | rfl <;> rfl) (by unfold maxLen; omega) (by omega) ?_
                    intro v' W' ho' hb' hg' hlt9
                    have HO2 := Lib.hid ho'
                    clear ho')
                  go_roundw
                  case rel => exact ⟨k' + 1, by omega, by go_num, bytes_snoc HO2.out (by rw [HT.out, bR_snoc, HPC2.out]) (bytes_two A (by omega)) rfl, hb'⟩
                  case measure => simp [intOf]; omega
                · have HPC2 : Hid (pieceQ s A p = (s.extract p.fr p.to).data.toList) := Lib.hid (by rw [piece_C hrf hesc hok HQO.out (by rw [← hch]; exact hcO) hbQ, cutB_eq s p.fr p.to hth])
                  have g3 : (((s[p.fr]'hfr).toNat : Int) == (A : Int)) = false := by rw [beq_eq_false_iff_ne]; omega
                  have HSZ : Hid ((s.extract p.fr p.to).size = (s.extract p.fr p.to).data.toList.length) := Lib.hid (size_list _)
                  have hsz : (s.extract p.fr p.to).size ≤ s.size := by rw [HSZ.out, cutB_eq s p.fr p.to hth, cutB_len s p.fr p.to hth]; omega
                  have hsl : ∀ W, (Instr.slice 9 (.string s) (some (.int .i64 (p.fr : Int))) (some (.int .i64 (p.to : Int))) none).run Tryd.prog W = .ok (.string (s.extract p.fr p.to)) W := fun W => by
                    have := run_slice_string (P := Tryd.prog) (w := W) 9 s .i64 .i64 (p.fr : Int) (p.to : Int) Tryd.underlying9 (by omega) (by omega) (by omega)
                    simpa using this
                  clear hrf hesc hok hch hcO hby hbQ
                  go_wp2_with (
                    at_builtin
                    refine wpList_append_str rfl (.tmp 116) (.tmp 122) _ _ _ rfl byteE2 Tryd.underlying9 w1 wr w1.heap.size hbr hbr.size ((Below.refl wr.heap.size wr).alloc (Nat.le_refl _) _) u14 (1 + (bR s A (rs.take k')).length) (Nat.toUInt8 A :: bR s A (rs.take k')) rfl HOW2.out (s.extract p.fr p.to) rfl (by unfold maxLen; omega) (by omega) ?_
                    intro v' W' ho' hb' hg' hlt9
                    have HO2 := Lib.hid ho'
                    clear ho')
                  go_roundw
                  case rel => exact ⟨k' + 1, by omega, by go_num, bytes_str HO2.out (by rw [HT.out, bR_snoc, HPC2.out]) HSZ.out, hb'⟩
                  case measure => simp [intOf]; omega
            · have hke' : rs.take k' = rs := List.take_of_length_le (by omega)
              rw [hke'] at HOW2 hlen2
              clear hke' htl
              have HPB := Lib.hid (show quoteB s ps _ = _ from by unfold quoteB; rw [HPQ.out, ← HM.out])
              go_wp2_with (
                at_builtin
                refine wpList_append_blk rfl (.tmp 147) (.tmp 150) _ _ 1 1 rfl byteE w1 wr w1.heap.size hbr hbr.size ((Below.refl wr.heap.size wr).alloc (Nat.le_refl _) _) u14 (1 + (bR s A rs).length) (Lib.byteCells (Nat.toUInt8 A :: bR s A rs)) rfl HOW2.out _ 1 [.int .u8 (A : Int)] rfl (Blk.new' [.int .u8 (A : Int)] _ (by simp)) rfl (fun u hu => by simp at hu; subst hu; rfl) (by unfold maxLen; omega) (by omega) ?_
                intro v' W' ho' hb' hg' hlt9
                have hown3 := bytes_end ho' (by omega)
                obtain ⟨g3, cap3, he3, hcells⟩ := own_bytes hown3 (by simp)
                have hcv := run_convert_bytes_back (P := Tryd.prog) W' 58 9 5 ⟨g3, 0, none⟩ cap3 (Nat.toUInt8 A :: (bR s A rs ++ [Nat.toUInt8 A])) Tryd.underlying58 Tryd.underlying5 Tryd.underlying9 hcells
                obtain ⟨N, hN⟩ : ∃ N, (Nat.toUInt8 A :: (bR s A rs ++ [Nat.toUInt8 A])).length = N := ⟨_, rfl⟩
                rw [hN] at he3 hcv
                subst he3
                clear hown3 hcells ho' hN)
              go_ret2
              exact ⟨by rw [HPB.out]; rfl, HB1.out.trans (hb'.mono HB1.out.size)⟩

set_option maxHeartbeats 1000000 in
theorem rquote_err (s : ByteArray) (single : Bool) (w : World) (hs : s.size ≤ 1048580) (p : Nat) (hp : partsB s = .error p) :
    Calls Tryd.prog 19 #[.string s, .bool single] w fun e w' => e = .returned (.tuple #[.string ⟨#[]⟩, .int .i64 300]) ∧ Below w.heap.size w w' := by
  have HC := Lib.hid (rparts_any s w hs)
  have HP := Lib.hid hp
  clear hp
  go_enter Tryd.func19, Tryd.ntmps19
  go_wp2_with (go_at_call 21; refine HC.out.mono ?_; rintro e w1 ⟨he, hb1⟩; unfold RPartsOut at he; rw [HP.out] at he; subst he)
  go_ret2
  exact ⟨rfl, hb1⟩
theorem rquote_any (s : ByteArray) (single : Bool) (w : World) (hs : s.size ≤ 1048580) :
    Calls Tryd.prog 19 #[.string s, .bool single] w fun e w' => e = .returned (.tuple #[.string (quoteS s single), .int .i64 (checkCode s)]) ∧ Below w.heap.size w w' := by
  cases hp : partsB s with
  | ok ps =>
    refine (rquote_try s single w hs ps hp).mono ?_
    rintro e w' ⟨rfl, hb⟩
    refine ⟨?_, hb⟩
    unfold quoteS checkCode
    rw [hp]
  | error p =>
    refine (rquote_err s single w hs p hp).mono ?_
    rintro e w' ⟨rfl, hb⟩
    refine ⟨?_, hb⟩
    unfold quoteS checkCode
    rw [hp]
end Go.Proofs.YtcjnlbelgmcpeaaDoor

