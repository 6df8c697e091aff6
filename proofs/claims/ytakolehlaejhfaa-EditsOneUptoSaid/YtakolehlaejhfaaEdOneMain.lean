/- EditsOne: the walk. -/
import Derived.Test.YtakolehlaejhfaaEdOneWalk
namespace Go.Proofs.Ytakolehlaejhfaa
open Go.RowKit
set_option maxRecDepth 100000
set_option linter.unusedVariables false
set_option linter.unusedSimpArgs false

theorem rest_small (z : Int) (n : Nat) (hn : n < 1024) : ∃ k : Nat, k ≤ n ∧ wrap64 ((IntKind.u64.wrap z).tmod (n + 1)) = (k : Int) := by
  have h0 : 0 ≤ IntKind.u64.wrap z := by
    exact wrap_u64_nonneg z

  have h1 := Int.tmod_nonneg ((n : Int) + 1) h0
  have h2 := Int.tmod_lt_of_pos (IntKind.u64.wrap z) (show (0 : Int) < (n : Int) + 1 by omega)
  refine ⟨((IntKind.u64.wrap z).tmod (n + 1)).toNat, by omega, ?_⟩
  unfold wrap64
  omega
theorem mem_flat_len {L : List Ln} {t : Ln} (h : t ∈ L) : t.length ≤ L.flatten.length := by
  induction L with
  | nil => simp at h
  | cons x xs ih =>
    rw [List.flatten_cons, List.length_append]
    rcases List.mem_cons.1 h with rfl | h
    · omega
    · have := ih h; omega
/-- What is joined is no longer than all of it. -/
theorem partB_le (L : List Ln) (z : Ln) (k j : Nat) : (partB L z k j).length ≤ L.flatten.length + z.length := by
  have ht : ∀ n, (L.take n).flatten.length ≤ L.flatten.length := fun n => by
    have : L.flatten = (L.take n).flatten ++ (L.drop n).flatten := by rw [← List.flatten_append, List.take_append_drop]
    rw [this, List.length_append]; omega
  unfold partB
  split
  · have := ht j; omega
  · have h1 : (L.take j).flatten = (L.take k).flatten ++ ((L.take j).drop k).flatten := by
      have h2 : (L.take j).take k = L.take k := by rw [List.take_take, Nat.min_eq_left (by omega)]
      rw [← h2, ← List.flatten_append, List.take_append_drop]
    have h3 := ht j
    rw [h1] at h3
    simp only [List.length_append] at h3 ⊢
    omega
theorem partB_end_lt (L : List Ln) (z : Ln) (k : Nat) (h : k < L.length) : partB L z k L.length = (L.take k).flatten ++ z ++ (L.drop k).flatten := by
  unfold partB
  rw [if_neg (by omega), List.take_length]
theorem partB_end_eq (L : List Ln) (z : Ln) : partB L z L.length L.length ++ z = (L.take L.length).flatten ++ z ++ (L.drop L.length).flatten := by
  unfold partB
  rw [if_pos (Nat.le_refl _), List.drop_length]
  simp
theorem eds_kept (u v : List Ln) (hu : u.length ≤ 1024) (hv : v.length ≤ 1024) (A : Option Addr) (c lo hi : Nat) (W : World) (hE : EdsAt W lo hi A (scriptB u v)) :
    Calls Try.prog 19 #[.slice A (scriptB u v).length c] W fun e w' => e = .returned (.int .i64 (keptB (scriptB u v))) ∧ W = w' := by
  obtain ⟨h1, h2⟩ := kept_script u v
  have h5 := eds_len u.length v (pairsB u v 0 0) 0 0 0
  rw [pairsB_len] at h5
  have := lcs_le u v
  have hl : (scriptB u v).length ≤ u.length + 1 := by unfold scriptB; omega
  exact kept_any A c (scriptB u v) lo hi W hE (fun e he => by have := h2 e he; omega) (by omega)
theorem eds_puts (u v : List Ln) (hu : u.length ≤ 1024) (hv : v.length ≤ 1024) (A : Option Addr) (c lo hi : Nat) (W : World) (hE : EdsAt W lo hi A (scriptB u v)) :
    Calls Try.prog 21 #[.slice A (scriptB u v).length c] W fun e w' => e = .returned (.int .i64 (putsB (scriptB u v))) ∧ W = w' := by
  have h5 := eds_len u.length v (pairsB u v 0 0) 0 0 0
  rw [pairsB_len] at h5
  have := lcs_le u v
  have hl : (scriptB u v).length ≤ u.length + 1 := by unfold scriptB; omega
  exact puts_any A c (scriptB u v) lo hi W hE (fun e he => by have := (put_script u v).2 e he; omega) (by omega)
/-- Both scripts of a text and the text with a line more. -/
def bigB (L : List Ln) (z : Ln) (k : Nat) : Ln := (L.take k).flatten ++ z ++ (L.drop k).flatten
def moreB (L : List Ln) (z : Ln) (k : Nat) : List Ln := L.take k ++ z :: L.drop k
theorem one_scripts (l m : Ln) (k : Nat) (hx : l.length + m.length + 1 ≤ 1048576) (hc : l.getLast? = some 10) (hno : ∀ c ∈ m, c ≠ 10) (hm : (linesB l).length < 1024) :
    (∀ W, Calls Try.prog 9 #[.string (strOf l), .string (strOf (bigB (linesB l) (m ++ [10]) k))] W (ScriptOut W (linesB l) (moreB (linesB l) (m ++ [10]) k))) ∧
    (∀ W, Calls Try.prog 9 #[.string (strOf (bigB (linesB l) (m ++ [10]) k)), .string (strOf l)] W (ScriptOut W (moreB (linesB l) (m ++ [10]) k) (linesB l))) := by
  have h1 := one_lines l m k hc hno
  have hB : (bigB (linesB l) (m ++ [10]) k).length ≤ 1048576 := by
    have h2 : ((linesB l).take k).flatten.length + ((linesB l).drop k).flatten.length = l.length := by
      rw [← List.length_append, ← List.flatten_append, List.take_append_drop, linesB_flat]
    unfold bigB
    simp only [List.length_append, List.length_singleton]
    omega
  have hs1 : (strOf l).size ≤ 1048576 := by rw [strOf_size]; omega
  have hs2 : (strOf (bigB (linesB l) (m ++ [10]) k)).size ≤ 1048576 := by rw [strOf_size]; exact hB
  have hm2 : (moreB (linesB l) (m ++ [10]) k).length ≤ 1024 := by
    unfold moreB
    simp only [List.length_append, List.length_cons, List.length_take, List.length_drop]
    omega
  have e1 : linesB (strOf l).data.toList = linesB l := by rw [strOf_data]
  have e2 : linesB (strOf (bigB (linesB l) (m ++ [10]) k)).data.toList = moreB (linesB l) (m ++ [10]) k := by rw [strOf_data]; exact h1
  refine ⟨fun W => ?_, fun W => ?_⟩
  · have := script_any (strOf l) (strOf (bigB (linesB l) (m ++ [10]) k)) W hs1 hs2 (by rw [e1]; omega) (by rw [e2]; exact hm2)
    rwa [e1, e2] at this
  · have := script_any (strOf (bigB (linesB l) (m ++ [10]) k)) (strOf l) W hs2 hs1 (by rw [e2]; exact hm2) (by rw [e1]; omega)
    rwa [e1, e2] at this
set_option maxHeartbeats 600000 in
theorem editsOne_main (l m : Ln) (z : Int) (w : World) (hx : l.length + m.length + 1 ≤ 1048576) (hn : 0 < (linesB l).length) (hm : (linesB l).length < 1024) (hl : l ≠ []) (hc : l.getLast hl = 10) (hmn : m ≠ []) :
    Calls Try.prog 6 #[.string (strOf l), .int .i64 z, .string (strOf m)] w fun e w' => e = .returned (.bool true) ∧ Below w.heap.size w w' := by
  have RL := Lib.hid (fun W => refLines_any l W (by omega))
  have hsz : (strOf l).size = l.length := strOf_size l
  have hszm : (strOf m).size = m.length := strOf_size m
  have hlen : 0 < l.length := List.length_pos_iff.2 hl
  have hlenm : 0 < m.length := List.length_pos_iff.2 hmn
  have hgl : ∀ (p : l.length - 1 < (strOf l).size), (strOf l)[l.length - 1]'p = l.getLast hl := fun p => by
    rw [List.getLast_eq_getElem]; rfl
  rw [hc] at hgl
  have HSC := Lib.hid (fun k (hno : ∀ c ∈ m, c ≠ 10) => one_scripts l m k hx (by rw [List.getLast?_eq_some_getLast hl, hc]) hno hm)
  have hfl : (linesB l).flatten.length = l.length := by rw [linesB_flat]
  have hcell : ∀ t ∈ linesB l, t.length ≤ l.length := fun t ht => by
    rw [← hfl]
    exact mem_flat_len ht
  have HFL := Lib.hid hfl
  have HCL := Lib.hid hcell
  clear hfl hcell
  generalize linesB l = a at *
  have h1 : ((a.length : Int) == 0) = false := by rw [beq_eq_false_iff_ne]; omega
  have h2 : (a.length : Int) < (1024 : Int) := by omega
  have e1 : (((l.length : Int) - 1).toNat) = l.length - 1 := by omega
  have hne : ((strOf m).toList.isEmpty) = false := by
    rw [ByteArray.toList_eq]
    simpa [strOf] using hmn
  go_enter Try.func6, Try.ntmps6
  go_wp2_with (go_at_call 14; refine (awake_any _).mono ?_; rintro e wk ⟨rfl, hbk⟩; have HBK := Lib.hid hbk; clear hbk)
  refine (RL.out wk).mono ?_
  rintro e w5 ⟨A5, c5, rfl, hc5, ht5, hb5⟩
  have HB := Lib.hid (HBK.out.call hb5)
  have HT := Lib.hid ht5
  clear ht5 hb5 RL HBK
  go_wp2_with fail
  go_loopw [8] (fun i wr => ∃ j n : Nat, j ≤ m.length ∧ i = .int .i64 (j : Int) ∧ wr = w5.drewN n ∧ ∀ k, k < j → m[k]? ≠ some 10) (fun i _ => m.length - (intOf i).toNat)
  case atStart => exact ⟨0, 0, Nat.zero_le _, rfl, rfl, by intro k hk; omega⟩
  case round =>
    obtain ⟨j, n, hj, rfl, rfl, hno⟩ := hrel
    have HNO := Lib.hid hno
    clear hno
    by_cases hlt : j < m.length
    · have hji : (j : Int) < (m.length : Int) := by omega
      have hgm : ∀ (p : j < (strOf m).size), (strOf m)[j]'p = m[j]'hlt := fun p => rfl
      have hx0 := List.getElem?_eq_getElem hlt
      generalize m[j]'hlt = ch at *
      have HX := Lib.hid hx0
      clear hx0
      by_cases h10 : ch = 10
      · subst h10
        go_wp2_with fail
        go_ret
        exact ⟨rfl, below_drewN HB.out _⟩
      · have hn10 : ((ch.toNat : Int) == 10) = false := by
          rw [beq_eq_false_iff_ne]
          intro e
          exact h10 (UInt8.toNat_inj.1 (by have e10 : (10 : UInt8).toNat = 10 := rfl; omega))
        have HN := Lib.hid h10
        clear h10
        go_wp2_with fail
        go_roundw
        case rel =>
          refine ⟨j + 1, n, by omega, by go_num, rfl, ?_⟩
          intro k h2 h3
          by_cases hkj : k = j
          · subst hkj
            rw [HX.out] at h3
            exact absurd (Option.some.inj h3) HN.out
          · exact HNO.out k (by omega) h3
        case measure => simp [intOf]; omega
    · have hji : (m.length : Int) ≤ (j : Int) := by omega
      go_wp2_with fail
      obtain ⟨k, hk, ek⟩ : ∃ k : Nat, k ≤ a.length ∧ wrap64 ((IntKind.u64.wrap z).tmod (a.length + 1)) = (k : Int) := rest_small z a.length (by omega)
      rw [ek]
      obtain ⟨wl, hwl⟩ : ∃ wl : World, wl = w5.drewN n := ⟨_, rfl⟩
      have HWL := Lib.hid hwl
      rw [← hwl]
      clear hwl
      have hnom : ∀ c ∈ m, c ≠ 10 := fun c hcm e => by
        obtain ⟨i, hi, hie⟩ := List.getElem_of_mem hcm
        exact HNO.out i (by omega) (by rw [List.getElem?_eq_getElem hi, hie, e])
      have HSC2 := Lib.hid (HSC.out k hnom)
      clear hnom HSC
      have HTL : Hid (TxtAt wl _ _ A5 a) := Lib.hid (by rw [HWL.out]; exact HT.out)
      have HBL : Hid (Below w.heap.size w wl) := Lib.hid (by rw [HWL.out]; exact below_drewN HB.out _)
      clear HWL HT HB HNO
      have hPL := fun j => partB_le a (m ++ [10]) k j
      have HPL : Hid (∀ j, (strOf (partB a (m ++ [10]) k j)).size ≤ 1048576) := Lib.hid (fun j => by
        have := hPL j
        rw [HFL.out, List.length_append, List.length_singleton] at this
        rw [strOf_size]; omega)
      clear hPL
      go_loopw [10, 11] (fun b i wr => ∃ j q : Nat, j ≤ a.length ∧ i = .int .i64 (j : Int) ∧ wr = wl.drewN q ∧ b = .string (strOf (partB a (m ++ [10]) k j))) (fun _ i _ => a.length - (intOf i).toNat)
      case atStart => exact ⟨0, 0, Nat.zero_le _, rfl, rfl, by simp [partB, strOf]⟩
      case round =>
        obtain ⟨j, q, hj, rfl, rfl, rfl⟩ := hrel
        have hp0 := HPL.out j
        by_cases hlt : j < a.length
        · obtain ⟨b0, o0, e0, _, _, hq0⟩ := HTL.out.at_ hlt
          subst e0
          have hcz : (strOf (a[j]'hlt)).size ≤ 1048576 := by
            rw [strOf_size]
            have := HCL.out _ (List.getElem_mem hlt)
            omega
          have hji : (j : Int) < (a.length : Int) := by omega
          rcases Nat.lt_trichotomy j k with hjk | hjk | hjk
          · have hb : ((j : Int) == (k : Int)) = false := by rw [beq_eq_false_iff_ne]; omega
            have HS := Lib.hid (show strOf (partB a (m ++ [10]) k j) ++ strOf (a[j]'hlt) = strOf (partB a (m ++ [10]) k (j + 1)) by rw [strOf_app, partB_lt a _ k j hlt hjk])
            generalize strOf (partB a (m ++ [10]) k j) = x at *
            generalize strOf (a[j]'hlt) = y at *
            go_wp2_with fail
            go_roundw
            case rel => exact ⟨j + 1, q, by omega, by go_num, rfl, by rw [HS.out]⟩
            case measure => simp [intOf]; omega
          · subst hjk
            have hb : ((j : Int) == (j : Int)) = true := by rw [beq_iff_eq]
            have hpz : (strOf (partB a (m ++ [10]) j j) ++ strOf m).size ≤ 2097152 := by
              rw [ByteArray.size_append]; omega
            have hpz2 : (strOf (partB a (m ++ [10]) j j) ++ strOf m ++ (⟨#[10]⟩ : ByteArray)).size ≤ 3097152 := by
              rw [ByteArray.size_append]
              have : (⟨#[10]⟩ : ByteArray).size = 1 := rfl
              omega
            have HS := Lib.hid (show strOf (partB a (m ++ [10]) j j) ++ strOf m ++ (⟨#[10]⟩ : ByteArray) ++ strOf (a[j]'hlt) = strOf (partB a (m ++ [10]) j (j + 1)) by
              rw [partB_eq a _ j hlt, show (⟨#[10]⟩ : ByteArray) = strOf [10] from rfl, strOf_app, strOf_app, strOf_app]
              simp only [List.append_assoc])
            generalize strOf (partB a (m ++ [10]) j j) = x at *
            generalize strOf (a[j]'hlt) = y at *
            go_wp2_with fail
            go_roundw
            case rel => exact ⟨j + 1, q, by omega, by go_num, rfl, by rw [HS.out]⟩
            case measure => simp [intOf]; omega
          · have hb : ((j : Int) == (k : Int)) = false := by rw [beq_eq_false_iff_ne]; omega
            have HS := Lib.hid (show strOf (partB a (m ++ [10]) k j) ++ strOf (a[j]'hlt) = strOf (partB a (m ++ [10]) k (j + 1)) by rw [strOf_app, partB_gt a _ k j hlt hjk])
            generalize strOf (partB a (m ++ [10]) k j) = x at *
            generalize strOf (a[j]'hlt) = y at *
            go_wp2_with fail
            go_roundw
            case rel => exact ⟨j + 1, q, by omega, by go_num, rfl, by rw [HS.out]⟩
            case measure => simp [intOf]; omega
        · have hje : j = a.length := by omega
          subst hje
          clear hp0 hj
          have HMN := Lib.hid (show (moreB a (m ++ [10]) k).length ≤ 1024 by
            unfold moreB
            simp only [List.length_append, List.length_cons, List.length_take, List.length_drop]
            omega)
          have HOP := Lib.hid (show _ from one_put a (m ++ [10]) k hk)
          change Hid (putsB (scriptB a (moreB a (m ++ [10]) k)) = 1 ∧ putsB (scriptB (moreB a (m ++ [10]) k) a) = 0 ∧ keptB (scriptB a (moreB a (m ++ [10]) k)) = a.length ∧ keptB (scriptB (moreB a (m ++ [10]) k) a) = a.length) at HOP
          have HBQ : Hid (Below w.heap.size w (wl.drewN q)) := Lib.hid (below_drewN HBL.out q)
          generalize wl.drewN q = wq at *
          have K1 := Lib.hid (fun W lo hi A c h => eds_kept a (moreB a (m ++ [10]) k) (by omega) HMN.out A c lo hi W h)
          have K2 := Lib.hid (fun W lo hi A c h => eds_kept (moreB a (m ++ [10]) k) a HMN.out (by omega) A c lo hi W h)
          have P1 := Lib.hid (fun W lo hi A c h => eds_puts a (moreB a (m ++ [10]) k) (by omega) HMN.out A c lo hi W h)
          have P2 := Lib.hid (fun W lo hi A c h => eds_puts (moreB a (m ++ [10]) k) a HMN.out (by omega) A c lo hi W h)
          rw [HOP.out.1] at P1
          rw [HOP.out.2.1] at P2
          rw [HOP.out.2.2.1] at K1
          rw [HOP.out.2.2.2] at K2
          clear HOP HMN
          have hal : a.length < 1024 := hm
          rcases Nat.lt_or_ge k a.length with hka | hka
          case' inl =>
            have hb : ((k : Int) == (a.length : Int)) = false := by rw [beq_eq_false_iff_ne]; omega
            have hb' : ((a.length : Int) == (k : Int)) = false := by rw [beq_eq_false_iff_ne]; omega
            rw [show strOf (partB a (m ++ [10]) k a.length) = strOf (bigB a (m ++ [10]) k) by rw [partB_end_lt a _ k hka]; rfl]
            generalize strOf (bigB a (m ++ [10]) k) = Bs at *
            generalize moreB a (m ++ [10]) k = c at *
            clear hk hka
            go_wp2_with fail
          case' inr =>
            have hke : k = a.length := by omega
            have hb : ((k : Int) == (a.length : Int)) = true := by rw [beq_iff_eq]; omega
            have hp0 := HPL.out a.length
            have HS := Lib.hid (show strOf (partB a (m ++ [10]) k a.length) ++ strOf m ++ (⟨#[10]⟩ : ByteArray) = strOf (bigB a (m ++ [10]) k) by
              rw [show (⟨#[10]⟩ : ByteArray) = strOf [10] from rfl, strOf_app, strOf_app, hke, List.append_assoc, partB_end_eq a _]
              rfl)
            have hpz : (strOf (partB a (m ++ [10]) k a.length) ++ strOf m).size ≤ 2097152 := by
              rw [ByteArray.size_append]; omega
            generalize strOf (partB a (m ++ [10]) k a.length) = x at *
            generalize strOf (bigB a (m ++ [10]) k) = Bs at *
            generalize moreB a (m ++ [10]) k = c at *
            clear hk hka hke
            go_wp2_with fail
            rw [HS.out]
            clear HS
          all_goals
            refine (HSC2.out.1 wq).mono ?_
            rintro e w1 ⟨v, es, rfl, hes, hown, hput, hb1⟩
            obtain ⟨A1, c1, rfl, hc1, hE1⟩ := out_eds hown hput
            rw [hes] at hE1
            have hle : es.length = (scriptB a c).length := by rw [← hes, List.length_map]
            rw [hle] at hc1 ⊢
            clear hown hput hes hle
            have HE1 := Lib.hid hE1
            have HB1 := Lib.hid (HBQ.out.call hb1)
            have HS1 := Lib.hid hb1.size
            clear hE1 hb1 HBQ
            go_wp2_with fail
            refine (HSC2.out.2 w1).mono ?_
            rintro e w2 ⟨v, fs, rfl, hes, hown, hput, hb2⟩
            obtain ⟨A2, c2, rfl, hc2, hE2⟩ := out_eds hown hput
            rw [hes] at hE2
            have hle : fs.length = (scriptB c a).length := by rw [← hes, List.length_map]
            rw [hle] at hc2 ⊢
            clear hown hput hes hle
            have HX2 := Lib.hid (HE1.out.below hb2 (Nat.le_refl _))
            have HY2 := Lib.hid hE2
            have HB2 := Lib.hid (HB1.out.call hb2)
            clear hE2 hb2 HE1 HB1
            go_wp2_with (go_at_call 12; refine (num_any _ _).mono ?_; rintro e w9 ⟨rfl, rfl⟩)
            refine (K1.out w2 _ _ A1 c1 HX2.out).mono ?_
            rintro e w9 ⟨rfl, rfl⟩
            go_wp2_with fail
            refine (K2.out w2 _ _ A2 c2 HY2.out).mono ?_
            rintro e w9 ⟨rfl, rfl⟩
            go_wp2_with fail
            refine (P1.out w2 _ _ A1 c1 HX2.out).mono ?_
            rintro e w9 ⟨rfl, rfl⟩
            go_wp2_with fail
            refine (P2.out w2 _ _ A2 c2 HY2.out).mono ?_
            rintro e w9 ⟨rfl, rfl⟩
            go_wp2_with fail
            go_ret
            exact ⟨rfl, HB2.out⟩
end Go.Proofs.Ytakolehlaejhfaa
