/- EditsLongest: the walk. -/
import Derived.Test.YtakolehlaejhfaaEdAwake
import Derived.Test.YtakolehlaejhfaaEdLong
import Derived.Test.YtakolehlaejhfaaEdAll
import Derived.Test.YtakolehlaejhfaaArgs
namespace Go.Proofs.Ytakolehlaejhfaa
open Go.RowKit
set_option maxRecDepth 100000
set_option linter.unusedVariables false
set_option linter.unusedSimpArgs false

/-- The numbers as they are masked. -/
theorem masks : ∀ (zs : List Int), ∃ vs : List Nat, vs.length = zs.length ∧ (∀ x ∈ vs, x < 4) ∧ ∀ j, j < zs.length → bits .and .i64 (zs.getD j 0) 3 = (vs.getD j 0 : Nat)
  | [] => ⟨[], rfl, by simp, by simp⟩
  | z :: zs => by
    obtain ⟨vs, h1, h2, h3⟩ := masks zs
    obtain ⟨v, hv, e⟩ := and_small z 3 (by omega)
    refine ⟨v :: vs, by simp [h1], ?_, ?_⟩
    · intro x hx
      rcases List.mem_cons.1 hx with rfl | hx
      · omega
      · exact h2 x hx
    · intro j hj
      cases j with
      | zero => simpa using e
      | succ j => simpa using h3 j (by simpa using hj)
theorem dl_len : ∀ v, v < 4 → (dl v).length = 2 := by decide +kernel
theorem dls_len : ∀ (vs : List Nat), (∀ x ∈ vs, x < 4) → (vs.map dl).flatten.length = 2 * vs.length
  | [], _ => rfl
  | v :: vs, h => by
    simp only [List.map_cons, List.flatten_cons, List.length_append, List.length_cons]
    rw [dl_len v (h v (by simp)), dls_len vs (fun x hx => h x (by simp [hx]))]
    omega
theorem intZ' : (Try.prog.info? 3).map (fun i => (i.zero, i.size, i.bytes)) = some (some (.int .i64 0), 1, 8) := by kernel_rfl
def numVal (v : Nat) : Value := .int .i64 (v : Int)
theorem NumAt.of_own {w : World} {base e n c : Nat} {A : Option Addr} {vs : List Nat} (h : w.ownsRow base e 1 (.slice A n c) n (vs.map numVal)) : NumAt w A vs ∧ n = vs.length ∧ vs.length ≤ c := by
  have hn : n = vs.length := by have := h.1; simp at this; omega
  subst hn
  refine ⟨fun hne => ?_, rfl, ?_⟩
  · obtain ⟨g, cap, hv, hb, hlt⟩ := own_form h (List.length_pos_iff.2 hne)
    injection hv with e1 e2 e3
    subst e1
    refine ⟨g, 0, rfl, fun j hj => ?_⟩
    have := h.cells (g := g) rfl j (numVal vs[j]) (by simp [hj])
    rw [show (⟨g, 0, none⟩ : Addr).add j = ⟨g, 0 + j, none⟩ by unfold Addr.add; split <;> simp_all] at this
    exact this
  · rcases h.2 with ⟨h1, h2⟩ | ⟨g, cap, cur, h1, _, _, h4, _⟩
    · injection h1 with e1 e2 e3; omega
    · injection h1 with e1 e2 e3; omega
theorem NumAt.below {w w' : World} {A : Option Addr} {zs : List Nat} (h : NumAt w A zs) (hb : Below w.heap.size w w') : NumAt w' A zs := fun hne => by
  obtain ⟨b, off, e, h1⟩ := h hne
  refine ⟨b, off, e, fun j hj => ?_⟩
  have h2 := h1 j hj
  have hlt := World.block_lt_of_cell? w _ h2
  exact (hb.cell (p := ⟨b, off + j, none⟩) hlt).trans h2

theorem take_dl (vs : List Nat) (j : Nat) (hj : j < vs.length) : ((vs.take (j + 1)).map dl).flatten = ((vs.take j).map dl).flatten ++ dl (vs.getD j 0) := by
  rw [List.take_succ_eq_append_getElem hj]
  simp only [List.map_append, List.flatten_append, List.map_cons, List.map_nil, List.flatten_cons, List.flatten_nil, List.append_nil, List.getD, List.getElem?_eq_getElem hj, Option.getD_some]
theorem take_num (vs : List Nat) (j : Nat) (hj : j < vs.length) : (vs.take (j + 1)).map numVal = (vs.take j).map numVal ++ [numVal (vs.getD j 0)] := by
  rw [List.take_succ_eq_append_getElem hj]
  simp only [List.map_append, List.map_cons, List.map_nil, List.getD, List.getElem?_eq_getElem hj, Option.getD_some]
theorem getD_lt4 (vs : List Nat) (j : Nat) (h : ∀ x ∈ vs, x < 4) : vs.getD j 0 < 4 := by
  by_cases hj : j < vs.length
  · simp only [List.getD, hj, List.getElem?_eq_getElem, Option.getD_some]
    exact h _ (List.getElem_mem hj)
  · simp [List.getD, hj]

set_option maxHeartbeats 4000000 in
theorem editsLongest_small (v0 v1 : Value) (z0 z1 : List Int) (w : World) (i0 : IntsIn w w.heap.size v0 z0) (i1 : IntsIn w w.heap.size v1 z1) (h0 : z0.length ≤ 8) (h1 : z1.length ≤ 8) :
    Calls Try.prog 7 #[v0, v1] w fun e w' => e = .returned (.bool true) ∧ Below w.heap.size w w' := by
  obtain ⟨a, ha1, ha2, ha3⟩ := masks z0
  obtain ⟨b, hb1, hb2, hb3⟩ := masks z1
  obtain ⟨A0, c0, rfl⟩ := i0.len
  obtain ⟨A1, c1, rfl⟩ := i1.len
  have I0 := Lib.hid i0
  have I1 := Lib.hid i1
  have M0 := Lib.hid ha3
  have M1 := Lib.hid hb3
  have LA := Lib.hid ha1
  have LB := Lib.hid hb1
  have SA := Lib.hid ha2
  have SB := Lib.hid hb2
  obtain ⟨q0, z0', hT1, hi0, hz0', hz1', hzb, hz4, hz5⟩ := intE
  have HE := Lib.hid (And.intro hi0 (And.intro hz0' (And.intro hz1' (And.intro hzb hz4))))
  clear i0 i1 ha3 hb3 ha1 hb1 ha2 hb2 hi0 hz0' hz1' hzb hz4 hT1
  have hzl : (z0.length : Int) ≤ 8 := by omega
  have hzl1 : (z1.length : Int) ≤ 8 := by omega
  go_enter Try.func7, Try.ntmps7
  go_wp2_with (go_at_call 14; refine (awake_any _).mono ?_; rintro e wk ⟨rfl, hbk⟩; have HBK := Lib.hid hbk; clear hbk)
  go_loopw [5, 7, 9] (fun sl st i wr => ∃ (j : Nat) (A : Option Addr) (c : Nat), j ≤ z0.length ∧ i = .int .i64 (j : Int) ∧ sl = .slice A j c ∧ wr.ownsRow wk.heap.size 3 1 (.slice A j c) j ((a.take j).map numVal) ∧ st = .string (strOf ((a.take j).map dl).flatten) ∧ Below wk.heap.size wk wr) (fun _ _ i _ => z0.length - (intOf i).toNat)
  case atStart => exact ⟨0, none, 0, Nat.zero_le _, rfl, rfl, World.ownsRow_nil _ _ _ _, rfl, Below.refl _ _⟩
  case round =>
    obtain ⟨j, A, c, hj, rfl, rfl, hown, rfl, hbe⟩ := hrel
    have HO := Lib.hid hown
    have HBE := Lib.hid hbe
    clear hown hbe
    by_cases hlt : j < z0.length
    · rcases I0.out with ⟨A, c, e, hz⟩ | ⟨bb, off, cc, e, hbB, _, hcell⟩
      · exfalso
        rw [hz] at hlt
        exact absurd hlt (by simp)
      · injection e with e1 e2 e3
        subst e1
        subst e3
        clear e2
        have hbk : bb < wk.heap.size := Nat.lt_of_lt_of_le hbB HBK.out.size
        have ck : wk.cell? ⟨bb, off + j, none⟩ = some (.int .i64 (z0.getD j 0)) := (HBK.out.cell (p := ⟨bb, off + j, none⟩) hbB).trans (hcell j hlt)
        have cz := (HBE.out.cell (p := ⟨bb, off + j, none⟩) hbk).trans ck
        have hbits := M0.out j hlt
        have hv4 := getD_lt4 a j SA.out
        have hja : j < a.length := by rw [LA.out]; exact hlt
        have TD := Lib.hid (take_dl a j hja)
        have TN := Lib.hid (take_num a j hja)
        generalize a.getD j 0 = v at *
        generalize z0.getD j 0 = z at *
        have hji : (j : Int) < (z0.length : Int) := by omega
        have hdz : (strOf (decB (v : Int))).size ≤ 30 := by rw [strOf_size]; exact decB_small v (by omega)
        have hsz : (strOf ((a.take j).map dl).flatten).size ≤ 64 := by
          rw [strOf_size, dls_len _ (fun x hx => SA.out x (List.mem_of_mem_take hx)), List.length_take]
          omega
        have HJ := Lib.hid (join_dl ((a.take j).map dl).flatten v)
        have CK := Lib.hid ck
        clear ck
        generalize hx : strOf ((a.take j).map dl).flatten = x at *
        clear hx hcell
        go_wp2_with (first
          | (at_builtin; refine wpList_append_own _ rfl _ _ 46 rfl wk.heap.size 3 q0 z0' 1 8 Try.underlying46 HE.out.1 HE.out.2.1 HE.out.2.2.1 HE.out.2.2.2.1 HE.out.2.2.2.2 (by omega) (.slice A j c) j ((a.take j).map numVal) rfl (HO.out.alloc _) ⟨wr.heap.size, 0, none⟩ 1 1 [numVal v] rfl rfl (World.news_of_block (cs := #[numVal v]) (t := 3) (fr := (0, 0)) (heap_alloc_new wr _)) (by simp [Value.oneCell', numVal]) (by unfold maxLen; omega) (by omega) (by have := HBE.out.size; simp; omega) ?_; intro v' w2 hown2 hgrow _; have HO2 := Lib.hid hown2; have HB2 := Lib.hid ((HBE.out.alloc HBE.out.size _).grown hgrow (by have := HBE.out.size; simp; omega) (fun k hk => (HO.out.lt k hk).1)); have hgz := hgrow.size; have cz2 := (HB2.out.cell (p := ⟨bb, off + j, none⟩) hbk).trans CK.out; clear hown2 hgrow)
          | (go_at_call 22; refine (dec_any v (by omega) _).mono ?_; rintro e w5 ⟨rfl, hb5⟩; have HB5 := Lib.hid hb5; clear hb5))
        go_roundw
        case rel =>
          obtain ⟨g, cap, rfl⟩ := ownsRow_succ HO2.out
          refine ⟨j + 1, some ⟨g, 0, none⟩, cap, by omega, by go_num, rfl, ?_, ?_, HB2.out.call HB5.out⟩
          · rw [TN.out]
            exact own_below HO2.out HB5.out
          · rw [HJ.out, TD.out]
        case measure => simp [intOf]; omega
    · have hje : j = z0.length := by omega
      have hji : (z0.length : Int) ≤ (j : Int) := by omega
      have hjd : decide (j < z0.length) = false := by simpa using hlt
      have hta : a.take j = a := by rw [hje, ← LA.out, List.take_length]
      rw [hta] at HO ⊢
      have hsx : (strOf (a.map dl).flatten).size ≤ 64 := by
        rw [strOf_size, dls_len _ SA.out, LA.out]; omega
      obtain ⟨sx, hsx'⟩ : ∃ sx, sx = strOf (a.map dl).flatten := ⟨_, rfl⟩
      rw [← hsx'] at hsx ⊢
      have HSX := Lib.hid hsx'
      have hz0 := HBE.out.size
      clear hlt hta hsx' hje hj
      obtain ⟨wl, rfl⟩ : ∃ wo : World, wo = wr := ⟨_, rfl⟩
      go_wp2_with fail
      clear hjd
      go_loopw [6, 8, 10] (fun sl st i wr => ∃ (j : Nat) (A : Option Addr) (c : Nat), j ≤ z1.length ∧ i = .int .i64 (j : Int) ∧ sl = .slice A j c ∧ wr.ownsRow wl.heap.size 3 1 (.slice A j c) j ((b.take j).map numVal) ∧ st = .string (strOf ((b.take j).map dl).flatten) ∧ Below wl.heap.size wl wr) (fun _ _ i _ => z1.length - (intOf i).toNat)
      case atStart => exact ⟨0, none, 0, Nat.zero_le _, rfl, rfl, World.ownsRow_nil _ _ _ _, rfl, Below.refl _ _⟩
      case round =>
        obtain ⟨j2, A3, c3, hj, rfl, rfl, hown, rfl, hbe⟩ := hrel
        have HO3 := Lib.hid hown
        have HBE3 := Lib.hid hbe
        clear hown hbe
        by_cases hlt : j2 < z1.length
        · rcases I1.out with ⟨A4, c4, e, hz⟩ | ⟨bb, off, cc, e, hbB, _, hcell⟩
          · exfalso
            rw [hz] at hlt
            exact absurd hlt (by simp)
          · injection e with e1 e2 e3
            subst e1
            subst e3
            clear e2
            have hbk : bb < wl.heap.size := by have := HBK.out.size; omega
            have ck : wl.cell? ⟨bb, off + j2, none⟩ = some (.int .i64 (z1.getD j2 0)) := ((HBE.out.cell (p := ⟨bb, off + j2, none⟩) (Nat.lt_of_lt_of_le hbB HBK.out.size)).trans (HBK.out.cell (p := ⟨bb, off + j2, none⟩) hbB)).trans (hcell j2 hlt)
            have cz := (HBE3.out.cell (p := ⟨bb, off + j2, none⟩) hbk).trans ck
            have hbits := M1.out j2 hlt
            have hv4 := getD_lt4 b j2 SB.out
            have hja : j2 < b.length := by rw [LB.out]; exact hlt
            have TD := Lib.hid (take_dl b j2 hja)
            have TN := Lib.hid (take_num b j2 hja)
            generalize b.getD j2 0 = v at *
            generalize z1.getD j2 0 = z at *
            have hji2 : (j2 : Int) < (z1.length : Int) := by omega
            have hdz : (strOf (decB (v : Int))).size ≤ 30 := by rw [strOf_size]; exact decB_small v (by omega)
            have hsz : (strOf ((b.take j2).map dl).flatten).size ≤ 64 := by
              rw [strOf_size, dls_len _ (fun x hx => SB.out x (List.mem_of_mem_take hx)), List.length_take]
              omega
            have HJ := Lib.hid (join_dl ((b.take j2).map dl).flatten v)
            have CK := Lib.hid ck
            clear ck
            generalize hx : strOf ((b.take j2).map dl).flatten = x at *
            clear hx hcell
            go_wp2_with (first
              | (at_builtin; refine wpList_append_own _ rfl _ _ 46 rfl wl.heap.size 3 q0 z0' 1 8 Try.underlying46 HE.out.1 HE.out.2.1 HE.out.2.2.1 HE.out.2.2.2.1 HE.out.2.2.2.2 (by omega) (.slice A3 j2 c3) j2 ((b.take j2).map numVal) rfl (HO3.out.alloc _) ⟨wr.heap.size, 0, none⟩ 1 1 [numVal v] rfl rfl (World.news_of_block (cs := #[numVal v]) (t := 3) (fr := (0, 0)) (heap_alloc_new wr _)) (by simp [Value.oneCell', numVal]) (by unfold maxLen; omega) (by omega) (by have := HBE3.out.size; simp; omega) ?_; intro v' w2 hown2 hgrow _; have HO2 := Lib.hid hown2; have HB2 := Lib.hid ((HBE3.out.alloc HBE3.out.size _).grown hgrow (by have := HBE3.out.size; simp; omega) (fun k hk => (HO3.out.lt k hk).1)); have hgz := hgrow.size; have cz2 := (HB2.out.cell (p := ⟨bb, off + j2, none⟩) hbk).trans CK.out; clear hown2 hgrow)
              | (go_at_call 22; refine (dec_any v (by omega) _).mono ?_; rintro e w5 ⟨rfl, hb5⟩; have HB5 := Lib.hid hb5; clear hb5))
            go_roundw
            case rel =>
              obtain ⟨g, cap, rfl⟩ := ownsRow_succ HO2.out
              refine ⟨j2 + 1, some ⟨g, 0, none⟩, cap, by omega, by go_num, rfl, ?_, ?_, HB2.out.call HB5.out⟩
              · rw [TN.out]
                exact own_below HO2.out HB5.out
              · rw [HJ.out, TD.out]
            case measure => simp [intOf]; omega
        · have hje2 : j2 = z1.length := by omega
          have hji2 : (z1.length : Int) ≤ (j2 : Int) := by omega
          have hta : b.take j2 = b := by rw [hje2, ← LB.out, List.take_length]
          rw [hta] at HO3 ⊢
          have hsy : (strOf (b.map dl).flatten).size ≤ 64 := by
            rw [strOf_size, dls_len _ SB.out, LB.out]; omega
          obtain ⟨sy, hsy'⟩ : ∃ sy, sy = strOf (b.map dl).flatten := ⟨_, rfl⟩
          rw [← hsy'] at hsy ⊢
          have h2x : linesB sx.data.toList = a.map dl := by rw [HSX.out, strOf_data, nums_lines a SA.out]
          have h2y : linesB sy.data.toList = b.map dl := by rw [hsy', strOf_data, nums_lines b SB.out]
          have hla : a.length ≤ 8 := by rw [LA.out]; exact h0
          have hlb : b.length ≤ 8 := by rw [LB.out]; exact h1
          have HSC := script_any sx sy wr (by omega) (by omega) (by rw [h2x, List.length_map]; omega) (by rw [h2y, List.length_map]; omega)
          rw [h2x, h2y] at HSC
          obtain ⟨n1, n2, n3'⟩ := NumAt.of_own HO.out
          obtain ⟨m1, m2, m3⟩ := NumAt.of_own HO3.out
          have hbr := HBE3.out
          subst n2
          subst m2
          obtain ⟨hk1, hk2⟩ := kept_script (a.map dl) (b.map dl)
          rw [lng_lcs a b SA.out SB.out] at hk1 hk2
          have hkl : (scriptB (a.map dl) (b.map dl)).length ≤ 9 := by
            have h5 := eds_len (a.map dl).length (b.map dl) (pairsB (a.map dl) (b.map dl) 0 0) 0 0 0
            rw [pairsB_len, lng_lcs a b SA.out SB.out] at h5
            have := lng_le a b
            unfold scriptB
            omega
          have hlg := lng_le a b
          have N1 := Lib.hid (fun W (hW : Below wr.heap.size wr W) => longest_any 16 a b A A3 c c3 W (by omega) n3' m3 (by omega) (by omega) ((n1.below hbr).below hW) (m1.below hW))
          have HK1 := Lib.hid hk1
          have HK2 := Lib.hid hk2
          have HSC' := Lib.hid HSC
          have HBW := Lib.hid ((HBK.out.call HBE.out).call hbr)
          have hjd2 : decide (b.length < z1.length) = false := by simp; omega
          clear hk1 hk2 HSC hbr n1 m1 hsy' h2x h2y hlt hta hje2 hj
          obtain ⟨E, hE0⟩ : ∃ E, E = scriptB (a.map dl) (b.map dl) := ⟨_, rfl⟩
          rw [← hE0] at HK1 HK2 hkl
          have HE0 := Lib.hid hE0
          clear hE0
          generalize lng a b = L at *
          go_wp2_with fail
          clear hjd2
          refine HSC'.out.mono ?_
          rintro e w5 ⟨v, es, rfl, hes, hown, hput, hb5⟩
          rw [← HE0.out] at hes
          obtain ⟨A5, c5, rfl, hc5, hE⟩ := out_eds hown hput
          rw [hes] at hE
          have hl : es.length = E.length := by rw [← hes, List.length_map]
          rw [hl]
          have HE5 := Lib.hid hE
          have HB5 := Lib.hid hb5
          clear hE hown hput hes hl hb5 hc5
          have hK := kept_any A5 c5 E _ _ w5 HE5.out (fun e he => by have := HK2.out e he; omega) (by omega)
          rw [HK1.out] at hK
          have HK := Lib.hid hK
          clear hK
          go_wp2_with (first
            | (go_at_call 12; refine (num_any _ _).mono ?_; rintro e w9 ⟨rfl, rfl⟩)
            | (go_at_call 19; refine HK.out.mono ?_; rintro e w9 ⟨rfl, rfl⟩)
            | (go_at_call 23; refine (N1.out _ HB5.out).mono ?_; rintro e w9 ⟨rfl, q, rfl⟩))
          go_ret
          exact ⟨rfl, below_drewN (HBW.out.call HB5.out) q⟩
theorem editsLongest_call (v0 : Value) (z0 : List Int) (v1 : Value) (z1 : List Int) (w : World) (i0 : IntsIn w w.heap.size v0 z0) (w0 : ∀ n ∈ z0, (Lit.int .i64 n).wf = true) (m0 : z0.length ≤ maxLen) (i1 : IntsIn w w.heap.size v1 z1) (w1 : ∀ n ∈ z1, (Lit.int .i64 n).wf = true) (m1 : z1.length ≤ maxLen) :
    Calls Try.prog 7 #[v0, v1] w fun e w' => e = .returned (.bool true) ∧ Below w.heap.size w w' := by
  by_cases h : z0.length ≤ 8 ∧ z1.length ≤ 8
  · exact editsLongest_small v0 v1 z0 z1 w i0 i1 h.1 h.2
  · obtain ⟨A0, c0, rfl⟩ := i0.len
    obtain ⟨A1, c1, rfl⟩ := i1.len
    have hcase : ((8 : Int) < (z0.length : Int)) ∨ ((z0.length : Int) ≤ 8 ∧ (8 : Int) < (z1.length : Int)) := by omega
    clear i0 i1 w0 w1 m0 m1 h
    rcases hcase with h1 | ⟨h1, h1'⟩
    all_goals
      go_enter Try.func7, Try.ntmps7
      go_wp2_with (go_at_call 14; refine (awake_any _).mono ?_; rintro e wk ⟨rfl, hbk⟩; have HBK := Lib.hid hbk; clear hbk)
      go_ret
      exact ⟨rfl, HBK.out⟩
end Go.Proofs.Ytakolehlaejhfaa
