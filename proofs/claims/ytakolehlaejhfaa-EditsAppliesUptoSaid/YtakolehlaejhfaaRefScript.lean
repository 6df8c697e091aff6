/- platenref24.Script. -/
import Derived.Test.YtakolehlaejhfaaRefPairs
import Derived.Test.YtakolehlaejhfaaRefLines
import Derived.Test.YtakolehlaejhfaaEdScript2
import Derived.Deep.RegionLaw
namespace Go.Proofs.Ytakolehlaejhfaa
open Go.RowKit
set_option maxRecDepth 100000
set_option linter.unusedVariables false
set_option linter.unusedSimpArgs false

/-! ### append(nil, texts...) as a step of a region that draws -/
theorem run_append_put {w : World} (ty : TypeId) (ct : Option Addr) (ls : List Ln) (cc : Nat) (hT : TxtAt w 0 w.heap.size ct ls) (hl : ls.length ≤ 2000000) :
    ∃ A' n' c' w', (Builtin.append_ #[40, 40] ty #[.slice none 0 0, .slice ct ls.length cc]).run Try.prog w = .ok (.slice A' n' c') w' ∧ (∀ k d, PutOwn w' w.heap.size (⟨k, d, ls⟩, .slice A' n' c')) ∧ Below w.heap.size w w' := by
  obtain ⟨i0, z0, hT1, hi0, hz0, hz1, hzb, hz4, hz5⟩ := strE'
  by_cases hls : ls = []
  · subst hls
    refine ⟨none, 0, 0, w, ?_, fun k d => .inl ⟨_, _, rfl, rfl⟩, Below.refl _ _⟩
    cases ct <;> simp [Builtin.append_, run_underlying Try.underlying40, sizeOf, typeInfo, hi0, Builtin.lenOf, Builtin.firstCells, loadCells, loadCellsFrom]
  · obtain ⟨b, off, rfl, _⟩ := hT hls
    have hcells : ∀ (j : Nat) (u : Value), (ls.map strVal)[j]? = some u → w.cell? ((⟨b, off, none⟩ : Addr).add j) = some u := by
      intro j u hu
      rw [List.getElem?_map] at hu
      cases hj : ls[j]? with
      | none => rw [hj] at hu; cases hu
      | some x =>
        rw [hj] at hu
        obtain ⟨hjl, ex⟩ := List.getElem?_eq_some_iff.1 hj
        obtain ⟨b', off', e, _, hb, hc⟩ := hT.at_ hjl
        cases e
        have e2 : (⟨b, off, none⟩ : Addr).add j = ⟨b, off + j, none⟩ := by unfold Addr.add; split <;> simp_all
        rw [e2, hc, ex]
        exact hu
    obtain ⟨v', w', hr, h2, h3, h4⟩ := run_append_own (P := Try.prog) (w := w) w.heap.size 40 ty 9 i0 z0 1 16 Try.underlying40 hi0 hz0 hz1 hzb hz4 (by omega) (.slice none 0 0) 0 [] (World.ownsRow_nil _ _ _ _) ⟨b, off, none⟩ ls.length cc (ls.map strVal) (by simp) hcells (strVals_one ls) (by unfold maxLen; omega) (by omega) (Nat.le_refl _)
    rw [List.nil_append, Nat.zero_add] at h2
    obtain ⟨A', n', c', rfl⟩ : ∃ A n c, v' = .slice A n c := by
      rcases h2.2 with ⟨h1, _⟩ | ⟨g, cap, cur, h1, _⟩
      · exact ⟨_, _, _, h1⟩
      · exact ⟨_, _, _, h1⟩
    exact ⟨A', n', c', w', hr, fun k d => .inr h2, (Below.refl w.heap.size w).grown h3 (by simp) (fun k hk => by cases hk)⟩
theorem step_append_put {w : World} {ops : Array Oper} {o : Oper} {a : Act} {K : Act → World → Prop} {Q : Exit → Act → World → Prop} {E : Prop} (hgd : o.guard = none) (s x : Operand)
    (ho : o.op = .call { callee := .builtin .append, args := #[s, x], argTypes := #[40, 40] }) (ct : Option Addr) (ls : List Ln) (cc : Nat) (hs : a.eval s = .slice none 0 0) (hx : a.eval x = .slice ct ls.length cc)
    (hT : TxtAt w 0 w.heap.size ct ls) (hl : ls.length ≤ 2000000)
    (h : ∀ A' n' c' w', (∀ k d, PutOwn w' w.heap.size (⟨k, d, ls⟩, .slice A' n' c')) → Below w.heap.size w w' → K (a.put o.dst (.slice A' n' c')) w') :
    if Region.wanted o (yielded ops a.tmps) = true then Oper.wp Try.prog o a w K Q else E := by
  have hw : Region.wanted o (yielded ops a.tmps) = true := by simp [Region.wanted, hgd]
  rw [if_pos hw]
  obtain ⟨A', n', c', w', hr, h2, h3⟩ := run_append_put (w := w) o.type ct ls cc hT hl
  unfold Oper.wp execOp
  simp only [ho, resolve, invoke, builtin, Sem.run_bind, Sem.run_pure, Result.andThen_ok, List.map_toArray, List.map_cons, List.map_nil, hs, hx, hr]
  exact h A' n' c' w' h2 h3

/-! ### The row of edits, the edit that is under way -/
structure ScrG (w4 : World) (ge : Nat) (cs : List Value) (v : Value) (es : List EdV) (W : World) : Prop where
  hge : Blk W ge cs 43
  own : W.ownsRow (ge + 1) 43 3 v es.length (edsCells es)
  puts : ∀ p ∈ es, PutOwn W (ge + 1) p
  below : Below ge w4 W
theorem PutOwn.below {W W' : World} {B : Nat} {p : EdV} (h : PutOwn W B p) (hb : Below W.heap.size W W') : PutOwn W' B p := by
  rcases h with h | h
  · exact .inl h
  · exact .inr (own_below h hb)
theorem ScrG.next {w4 W W' : World} {ge : Nat} {cs : List Value} {v : Value} {es : List EdV} (h : ScrG w4 ge cs v es W) (hb : Below W.heap.size W W') : ScrG w4 ge cs v es W' :=
  ⟨h.hge.below hb, own_below h.own hb, fun p hp => (h.puts p hp).below hb, h.below.trans (hb.mono (by have := h.hge.lt; omega))⟩
theorem ScrG.set {w4 W : World} {ge : Nat} {cs : List Value} {v : Value} {es : List EdV} (h : ScrG w4 ge cs v es W) (j : Nat) (u : Value) : ScrG w4 ge (cs.set j u) v es (W.setCell ⟨ge, j, none⟩ u) := by
  refine ⟨h.hge.set j u, ownsRow_setCell_below h.own (a := ⟨ge, j, none⟩) (by simp) _, fun p hp => ?_, h.below.setCell (p := ⟨ge, j, none⟩) (Nat.le_refl _) _⟩
  rcases h.puts p hp with h1 | h1
  · exact .inl h1
  · exact .inr (ownsRow_setCell_below h1 (a := ⟨ge, j, none⟩) (by simp) _)
theorem ScrG.push {w4 W W' : World} {ge : Nat} {cs : List Value} {v v' : Value} {es : List EdV} (h : ScrG w4 ge cs v es W) (o : Obj) (E : Ed) {A' : Option Addr} {n' c' : Nat} (hput : PutOwn W (ge + 1) (E, .slice A' n' c'))
    (hown : W'.ownsRow (ge + 1) 43 3 v' (es.length + 1) (edsCells es ++ [.int .i64 E.keep, .int .i64 E.drop, .slice A' n' c'])) (hg : (W.alloc o).grownBy W' v.ownBlock) :
    ScrG w4 ge cs v' (es ++ [(E, .slice A' n' c')]) W' := by
  have hlt := h.hge.lt
  have hvo : ∀ x, v.ownBlock = some x → ge + 1 ≤ x ∧ x < W.heap.size := fun x hx => h.own.lt x hx
  have hk : KX (fun x => v.ownBlock = some x) W W' := by
    have e1 : KX (fun x => v.ownBlock = some x) W (W.alloc o) := KX.of_below ((Below.refl _ W).alloc (Nat.le_refl _) o)
    exact e1.trans ⟨hg.os, hg.tape, hg.output, hg.size, fun x hx hn => hg.block x hx (fun e => hn e.symm)⟩
  have hkp : ∀ p, PutOwn W (ge + 1) p → PutOwn W' (ge + 1) p := fun p hp => by
    refine hp.kx hk fun g hgb _ hcur hx => ?_
    obtain ⟨cur, hcur⟩ := hcur
    rcases h.own.2 with ⟨e, _⟩ | ⟨g', cap, cur', e, _, hc, _⟩
    · rw [e] at hx; cases hx
    · rw [e] at hx
      have : g' = g := by simpa [Value.ownBlock] using hx
      subst this
      rw [hcur] at hc; cases hc
  refine ⟨(h.hge.alloc o).grown hg (fun e => by have := (hvo ge e.symm).1; omega), by rw [edsCells_snoc, List.length_append]; exact hown, fun p hp => ?_, ?_⟩
  · rcases List.mem_append.1 hp with hp | hp
    · exact hkp p (h.puts p hp)
    · simp only [List.mem_cons, List.not_mem_nil, or_false] at hp
      subst hp
      exact hkp _ hput
  · exact (h.below.alloc (by omega) o).grown hg (by simp; omega) (fun k hk => by have := (hvo k hk).1; omega)
/-! ### Plain: what is left, at a pair -/
def RefInv (a b : List Ln) (p i k keep : Nat) (L : List Ed) : Prop :=
  (p ≤ (pairsB a b 0 0).length → (pairsB a b 0 0).drop p = pairsB (a.drop i) (b.drop k) i k ∧ i ≤ a.length ∧ k ≤ b.length ∧ L ++ edsB a.length b ((pairsB a b 0 0).drop p) keep i k = scriptB a b) ∧
  ((pairsB a b 0 0).length < p → L ++ (if 0 < keep then [⟨(keep : Int), 0, []⟩] else []) = scriptB a b) ∧ keep ≤ p ∧ L.length ≤ p
theorem refInv_new (a b : List Ln) : RefInv a b 0 0 0 0 [] := ⟨fun _ => ⟨rfl, Nat.zero_le _, Nat.zero_le _, rfl⟩, fun h => by omega, Nat.le_refl _, Nat.le_refl _⟩
theorem refInv_at {a b : List Ln} {p i k keep : Nat} {L : List Ed} (h : RefInv a b p i k keep L) (hp : p < (pairsB a b 0 0).length) :
    i ≤ (pairsB a b 0 0)[p].1 ∧ (pairsB a b 0 0)[p].1 < a.length ∧ k ≤ (pairsB a b 0 0)[p].2 ∧ (pairsB a b 0 0)[p].2 < b.length ∧
      (pairsB a b 0 0).drop (p + 1) = pairsB (a.drop ((pairsB a b 0 0)[p].1 + 1)) (b.drop ((pairsB a b 0 0)[p].2 + 1)) ((pairsB a b 0 0)[p].1 + 1) ((pairsB a b 0 0)[p].2 + 1) := by
  obtain ⟨h1, _, _, _⟩ := h
  obtain ⟨h1, h2, h3, _⟩ := h1 (by omega)
  rw [List.drop_eq_getElem_cons hp] at h1
  obtain ⟨e1, e2, e3, e4, e5⟩ := pairsB_tail _ _ _ _ _ _ h1.symm
  rw [List.length_drop] at e2 e4
  refine ⟨e1, by omega, e3, by omega, ?_⟩
  rw [e5, List.drop_drop, List.drop_drop]
  rw [show i + ((pairsB a b 0 0)[p].1 + 1 - i) = (pairsB a b 0 0)[p].1 + 1 by omega, show k + ((pairsB a b 0 0)[p].2 + 1 - k) = (pairsB a b 0 0)[p].2 + 1 by omega]
theorem refInv_yes {a b : List Ln} {p i k keep : Nat} {L : List Ed} (h : RefInv a b p i k keep L) (hp : p < (pairsB a b 0 0).length) (hc : i < (pairsB a b 0 0)[p].1 ∨ k < (pairsB a b 0 0)[p].2) :
    RefInv a b (p + 1) ((pairsB a b 0 0)[p].1 + 1) ((pairsB a b 0 0)[p].2 + 1) 1 (L ++ [⟨(keep : Int), ((pairsB a b 0 0)[p].1 : Int) - i, (b.drop k).take ((pairsB a b 0 0)[p].2 - k)⟩]) := by
  obtain ⟨e1, e2, e3, e4, e5⟩ := refInv_at h hp
  obtain ⟨h1, _, h3, h4⟩ := h
  obtain ⟨_, _, _, h2⟩ := h1 (by omega)
  refine ⟨fun _ => ⟨e5, by omega, by omega, ?_⟩, fun h => by omega, by omega, by simp; omega⟩
  rw [List.drop_eq_getElem_cons hp, edsB_yes _ _ _ _ _ _ _ hc] at h2
  rw [← h2]
  simp
theorem refInv_no {a b : List Ln} {p i k keep : Nat} {L : List Ed} (h : RefInv a b p i k keep L) (hp : p < (pairsB a b 0 0).length) (hc : ¬ (i < (pairsB a b 0 0)[p].1 ∨ k < (pairsB a b 0 0)[p].2)) :
    RefInv a b (p + 1) ((pairsB a b 0 0)[p].1 + 1) ((pairsB a b 0 0)[p].2 + 1) (keep + 1) L := by
  obtain ⟨e1, e2, e3, e4, e5⟩ := refInv_at h hp
  obtain ⟨h1, _, h3, h4⟩ := h
  obtain ⟨_, _, _, h2⟩ := h1 (by omega)
  refine ⟨fun _ => ⟨e5, by omega, by omega, ?_⟩, fun h => by omega, by omega, by omega⟩
  rw [List.drop_eq_getElem_cons hp, edsB_no _ _ _ _ _ _ _ hc] at h2
  exact h2
theorem refInv_last {a b : List Ln} {i k keep : Nat} {L : List Ed} (h : RefInv a b (pairsB a b 0 0).length i k keep L) :
    i ≤ a.length ∧ k ≤ b.length ∧ ((i < a.length ∨ k < b.length) → RefInv a b ((pairsB a b 0 0).length + 1) (a.length + 1) (b.length + 1) 0 (L ++ [⟨(keep : Int), (a.length : Int) - i, (b.drop k).take (b.length - k)⟩])) ∧
      (¬ (i < a.length ∨ k < b.length) → RefInv a b ((pairsB a b 0 0).length + 1) (a.length + 1) (b.length + 1) keep L) := by
  obtain ⟨h1, _, h3, h4⟩ := h
  obtain ⟨_, hi, hk, h2⟩ := h1 (Nat.le_refl _)
  rw [List.drop_length, edsB_nil] at h2
  refine ⟨hi, hk, fun hc => ⟨fun h => by omega, fun _ => ?_, by omega, by simp; omega⟩, fun hc => ⟨fun h => by omega, fun _ => ?_, by omega, by omega⟩⟩
  · rw [if_pos hc] at h2
    rw [if_neg (by omega), List.append_nil, List.take_of_length_le (by rw [List.length_drop]; omega)]
    exact h2
  · rw [if_neg hc] at h2
    exact h2

set_option maxHeartbeats 8000000 in
theorem refScript_any (x y : Ln) (w : World) (hx : x.length ≤ 1048576) (hy : y.length ≤ 1048576) (ha : (linesB x).length ≤ 1024) (hb : (linesB y).length ≤ 1024) :
    Calls Try.prog 10 #[.string (strOf x), .string (strOf y)] w (ScriptOut w (linesB x) (linesB y)) := by
  have HX := Lib.hid (refLines_any x w hx)
  have HY := Lib.hid (fun W => refLines_any y W hy)
  generalize linesB x = a at *
  generalize linesB y = b at *
  go_enter Try.func10, Try.ntmps10
  go_wp2_with fail
  refine HX.out.mono ?_
  rintro e w1 ⟨A1, c1, rfl, hc1, ht1, hb1⟩
  have HT1 := Lib.hid ht1
  have HB1 := Lib.hid hb1
  clear ht1 hb1 HX
  go_wp2_with fail
  refine (HY.out w1).mono ?_
  rintro e w2 ⟨A2, c2, rfl, hc2, ht2, hb2⟩
  have HT1' := Lib.hid ((HT1.out.below hb2 (Nat.le_refl _)).wide (Nat.zero_le _) hb2.size)
  have HT2 := Lib.hid (ht2.wide (Nat.zero_le _) (Nat.le_refl _))
  have HB2 := Lib.hid (HB1.out.call hb2)
  clear ht2 hb2 HT1 HB1 HY
  have HP := Lib.hid (refPairs_any a b A1 A2 c1 c2 w2 ha hb HT1'.out HT2.out)
  have hla := pairsB_len a b 0 0
  have hlb := lcs_le a b
  obtain ⟨P, hP⟩ : ∃ P, P = pairsB a b 0 0 := ⟨_, rfl⟩
  have hPl : P.length ≤ 1024 := by rw [hP]; omega
  clear hla hlb
  go_wp2_with fail
  refine HP.out.mono ?_
  rintro e w3 ⟨A3, c3, rfl, hown3, hb3⟩
  rw [← hP] at hown3 ⊢
  have HPP := Lib.hid hP
  have HO3 := Lib.hid hown3
  have HB3 := Lib.hid hb3
  clear hown3 hb3 HP hP
  go_upto_region 5 with (at_builtin; refine wpList_append_blk rfl (.tmp 31) (.tmp 37) _ _ 2 16 rfl pairE w2 w3 w2.heap.size HB3.out HB3.out.size ((Below.refl _ _).alloc (Nat.le_refl _) _) (.slice A3 P.length c3) P.length (pairCells P) rfl HO3.out w3.heap.size 1 [.int .i64 (a.length : Int), .int .i64 (b.length : Int)] rfl (Blk.new' _ _ rfl) rfl (by simp [Value.oneCell']) (by unfold maxLen; omega) (by omega) ?_; intro v' w4 ho' hb' hg' hlt'; have HO4 := Lib.hid ho'; have HB4 := Lib.hid hb'; clear ho' hb' hg' hlt')
  obtain ⟨gq, cq, rfl⟩ := ownsRow_succ HO4.out
  obtain ⟨ge, hge⟩ : ∃ ge, ge = w4.heap.size := ⟨_, rfl⟩
  rw [← pairCells_snoc P (a.length, b.length)] at HO4
  have hz4 : w2.heap.size ≤ ge := by rw [hge]; exact HB4.out.size
  go_wp2_with fail
  rw [← hge]
  have hb24 : Below ge w4 (w4.alloc (.cells #[.int .i64 0, .int .i64 0, .slice none 0 0] 43)) := (Below.refl ge w4).alloc (by omega) _
  have hG0 : ScrG w4 ge [.int .i64 0, .int .i64 0, .slice none 0 0] (.slice none 0 0) [] (w4.alloc (.cells #[.int .i64 0, .int .i64 0, .slice none 0 0] 43)) :=
    ⟨Blk.new' _ _ hge, World.ownsRow_nil _ _ _ _, by simp, hb24⟩
  have HG0 := Lib.hid hG0
  -- the pairs' cells, in a world that keeps them
  have hgq : gq < ge := by rw [hge]; exact (HO4.out.lt _ rfl).2
  have hqc : ∀ W, Below ge w4 W → ∀ p, (hp : p < (P ++ [(a.length, b.length)]).length) → W.cell? ⟨gq, p * 2, none⟩ = some (.int .i64 ((P ++ [(a.length, b.length)])[p].1 : Int)) ∧ W.cell? ⟨gq, p * 2 + 1, none⟩ = some (.int .i64 ((P ++ [(a.length, b.length)])[p].2 : Int)) := by
    intro W hW p hp
    obtain ⟨k1, k2⟩ := pairCells_at _ p hp
    rw [List.length_append, List.length_singleton] at hp
    refine ⟨?_, ?_⟩
    · rw [hW.cell (p := ⟨gq, p * 2, none⟩) hgq, HO4.out.cellAt (p * 2) (by omega)]
      exact k1
    · rw [hW.cell (p := ⟨gq, p * 2 + 1, none⟩) hgq, HO4.out.cellAt (p * 2 + 1) (by omega)]
      exact k2
  have HQC := Lib.hid hqc
  have hT4 : TxtAt w4 0 ge A2 b := (HT2.out.below HB4.out (Nat.le_refl _)).wide (Nat.le_refl _) hz4
  have HT4 := Lib.hid hT4
  have hW4 : Below w.heap.size w w4 := HB2.out.call HB4.out
  have HW4 := Lib.hid hW4
  have hwg : w.heap.size ≤ ge := by have := HB2.out.size; omega
  have hge4 : ge ≤ w4.heap.size := by omega
  clear hG0 hb24 hqc hT4 hW4 HB4 HB2 HT2 HT1' HO4 HO3 HB3 hge
  generalize w4.alloc (.cells #[.int .i64 0, .int .i64 0, .slice none 0 0] 43) = w5 at *
  go_loopw [9, 10, 11, 13, 14, 15, 16] (fun o i k bg p _ _ wr => ∃ (p' i' k' keep : Nat) (es : List EdV) (A : Option Addr) (c : Nat) (bf : Bool), p' ≤ P.length + 1 ∧ p = .int .i64 (p' : Int) ∧ i = .int .i64 (i' : Int) ∧ k = .int .i64 (k' : Int) ∧ bg = .bool bf ∧ (bf = true ↔ 0 < keep) ∧ o = .slice A es.length c ∧
    i' ≤ 1025 ∧ k' ≤ 1025 ∧ RefInv a b p' i' k' keep (es.map (·.1)) ∧ ScrG w4 ge [.int .i64 (keep : Int), .int .i64 0, .slice none 0 0] (.slice A es.length c) es wr) (fun _ _ _ _ p _ _ _ => P.length + 1 - (intOf p).toNat)
  case atStart => exact ⟨0, 0, 0, 0, [], none, 0, false, Nat.zero_le _, rfl, rfl, rfl, rfl, by simp, rfl, by omega, by omega, refInv_new a b, HG0.out⟩
  case round =>
    obtain ⟨p, i, k, keep, es, A, c, bf, hp, rfl, rfl, rfl, rfl, hbf, rfl, hi, hk, hinv, hG⟩ := hrel
    have hkp : keep ≤ p := hinv.2.2.1
    have hel : es.length ≤ p := by have := hinv.2.2.2; simpa using this
    have HINV := Lib.hid hinv
    have HG := Lib.hid hG
    have HBF := Lib.hid hbf
    have hgl := hG.hge.lt
    clear hinv hG hbf HG0
    by_cases hpl : p < P.length + 1
    case neg =>
      have hpe : p = P.length + 1 := by omega
      have hpi : (P.length : Int) + 1 ≤ (p : Int) := by omega
      have hfin := HINV.out.2.1 (by rw [← HPP.out]; omega)
      have HFIN := Lib.hid hfin
      clear hfin
      cases bf with
      | false =>
        have h0 : keep = 0 := by have := HBF.out; simp at this; omega
        subst h0
        go_wp2_with fail
        go_ret2
        refine ⟨.slice A es.length c, es, rfl, ?_, own_low HG.out.own (by omega), fun q hq => (HG.out.puts q hq).low (by omega), HW4.out.trans (HG.out.below.mono hwg)⟩
        have := HFIN.out
        simpa using this
      | true =>
        have h0 : 0 < keep := HBF.out.1 rfl
        have d0 := HG.out.hge.cell 0
        have d1 := HG.out.hge.cell 1
        have d2 := HG.out.hge.cell 2
        simp only [List.getElem?_cons_zero, List.getElem?_cons_succ] at d0 d1 d2
        go_wp2_with (at_builtin; refine wpList_append_blk rfl (.tmp 105) (.tmp 107) 22 43 3 40 rfl edE wr wr (ge + 1) (Below.refl _ _) (by omega) ((Below.refl _ _).alloc (Nat.le_refl _) _) (.slice A es.length c) es.length (edsCells es) rfl HG.out.own wr.heap.size 1 [.int .i64 (keep : Int), .int .i64 0, .slice none 0 0] rfl (Blk.new' _ _ rfl) rfl (by simp [Value.oneCell']) (by unfold maxLen; omega) (by omega) ?_; intro v' w6 ho' hb' hg' hlt'; have HO6 := Lib.hid ho'; have HG6 := Lib.hid hg'; clear ho' hb' hg' hlt')
        obtain ⟨g6, cap6, rfl⟩ := ownsRow_succ HO6.out
        have hG6 := HG.out.push (.cells #[.int .i64 (keep : Int), .int .i64 0, .slice none 0 0] 43) ⟨(keep : Int), 0, []⟩ (.inl ⟨none, 0, rfl, rfl⟩) HO6.out HG6.out
        go_ret2
        refine ⟨.slice (some ⟨g6, 0, none⟩) (es.length + 1) cap6, es ++ [(⟨(keep : Int), 0, []⟩, .slice none 0 0)], rfl, ?_, by have h := own_low (base' := w.heap.size) hG6.own (by omega); rw [List.length_append] at h ⊢; exact h, fun q hq => (hG6.puts q hq).low (by omega), HW4.out.trans (hG6.below.mono hwg)⟩
        have := HFIN.out
        rw [if_pos h0] at this
        simpa using this
    -- the pair
    have hst : ∃ x1 y1 : Nat, (∀ W, Below ge w4 W → W.cell? ⟨gq, p * 2, none⟩ = some (.int .i64 (x1 : Int)) ∧ W.cell? ⟨gq, p * 2 + 1, none⟩ = some (.int .i64 (y1 : Int))) ∧ i ≤ x1 ∧ k ≤ y1 ∧ x1 ≤ 1024 ∧ y1 ≤ b.length ∧
        (p < P.length → ((i < x1 ∨ k < y1) → RefInv a b (p + 1) (x1 + 1) (y1 + 1) 1 (es.map (·.1) ++ [⟨(keep : Int), (x1 : Int) - i, (b.drop k).take (y1 - k)⟩])) ∧ (¬ (i < x1 ∨ k < y1) → RefInv a b (p + 1) (x1 + 1) (y1 + 1) (keep + 1) (es.map (·.1)))) ∧
        (p = P.length → ((i < x1 ∨ k < y1) → RefInv a b (p + 1) (x1 + 1) (y1 + 1) 0 (es.map (·.1) ++ [⟨(keep : Int), (x1 : Int) - i, (b.drop k).take (y1 - k)⟩])) ∧ (¬ (i < x1 ∨ k < y1) → RefInv a b (p + 1) (x1 + 1) (y1 + 1) keep (es.map (·.1)))) := by
      have hQ := fun W hW => HQC.out W hW p (by rw [List.length_append, List.length_singleton]; omega)
      by_cases hlt : p < P.length
      · have e : (P ++ [(a.length, b.length)])[p]'(by rw [List.length_append, List.length_singleton]; omega) = P[p] := List.getElem_append_left hlt
        rw [e] at hQ
        have hpp := HPP.out
        subst hpp
        obtain ⟨e1, e2, e3, e4, _⟩ := refInv_at HINV.out hlt
        exact ⟨_, _, hQ, e1, e3, by omega, by omega, fun _ => ⟨fun h => refInv_yes HINV.out hlt h, fun h => refInv_no HINV.out hlt h⟩, fun h => by omega⟩
      · have hpe : p = P.length := by omega
        have e : (P ++ [(a.length, b.length)])[p]'(by rw [List.length_append, List.length_singleton]; omega) = (a.length, b.length) := by
          subst hpe; simp
        rw [e] at hQ
        have hpp := HPP.out
        subst hpp
        have hi2 := HINV.out
        rw [hpe] at hi2 ⊢
        obtain ⟨e1, e2, e3, e4⟩ := refInv_last hi2
        rw [hpe] at hQ
        exact ⟨_, _, hQ, e1, e2, ha, Nat.le_refl _, fun h => by omega, fun _ => ⟨e3, e4⟩⟩
    obtain ⟨x1, y1, hcl, hx1, hy1, hx2, hy2, hin1, hin2⟩ := hst
    have HCL := Lib.hid hcl
    have HIN1 := Lib.hid hin1
    have HIN2 := Lib.hid hin2
    clear hcl hin1 hin2
    obtain ⟨dd, rfl⟩ : ∃ dd, x1 = i + dd := ⟨x1 - i, by omega⟩
    obtain ⟨dp, rfl⟩ : ∃ dp, y1 = k + dp := ⟨y1 - k, by omega⟩
    have hwr := HG.out.below
    obtain ⟨q1, q2⟩ := HCL.out wr hwr
    clear hwr
    have hpi : (p : Int) < (P.length : Int) + 1 := by omega
    have s1 : IntKind.i64.wrap (((i + dd : Nat) : Int) - (i : Int)) = (dd : Int) := by rw [show ((i + dd : Nat) : Int) - (i : Int) = (dd : Int) by omega]; exact IntWalk.i64_in _ (by omega)
    have s2 : IntKind.i64.wrap (((k + dp : Nat) : Int) - (k : Int)) = (dp : Int) := by rw [show ((k + dp : Nat) : Int) - (k : Int) = (dp : Int) by omega]; exact IntWalk.i64_in _ (by omega)
    obtain ⟨x1, hx1e⟩ : ∃ x1, x1 = i + dd := ⟨_, rfl⟩
    obtain ⟨y1, hy1e⟩ : ∃ y1, y1 = k + dp := ⟨_, rfl⟩
    rw [← hx1e] at s1 q1 hx1 hx2 HCL HIN1 HIN2
    rw [← hy1e] at s2 q2 hy1 hy2 HCL HIN1 HIN2
    have hx1a : i + dd ≤ x1 := by omega
    have hx1b : x1 ≤ i + dd := by omega
    have hy1a : k + dp ≤ y1 := by omega
    have hy1b : y1 ≤ k + dp := by omega
    have HY1E := Lib.hid hy1e
    clear hx1e hy1e
    go_wp2_with fail
    go_quiet (fail)
    clear s1 s2 q1 q2
    have HGQ : Hid (ScrG w4 ge [.int .i64 (keep : Int), .int .i64 0, .slice none 0 0] (.slice A es.length c) es (wr.drewN nq)) := Lib.hid (HG.out.next (below_drewN (Below.refl _ _) nq))
    clear HG
    generalize wr.drewN nq = wq at *
    have hcase : ((i < x1 ∨ k < y1) ∧ decide (0 < (dd : Int)) = true ∧ decide (0 < dd) = true) ∨ ((i < x1 ∨ k < y1) ∧ (decide (0 < (dd : Int)) = false ∧ decide (0 < dd) = false) ∧ (decide (0 < (dp : Int)) = true ∧ decide (0 < dp) = true)) ∨ (¬ (i < x1 ∨ k < y1) ∧ (decide (0 < (dd : Int)) = false ∧ decide (0 < dd) = false) ∧ (decide (0 < (dp : Int)) = false ∧ decide (0 < dp) = false)) := by
      by_cases h1 : 0 < dd
      · exact .inl ⟨by omega, by simpa using h1, by simpa using h1⟩
      · by_cases h2 : 0 < dp
        · exact .inr (.inl ⟨by omega, ⟨by simpa using h1, by simpa using h1⟩, ⟨by simpa using h2, by simpa using h2⟩⟩)
        · exact .inr (.inr ⟨by omega, ⟨by simpa using h1, by simpa using h1⟩, ⟨by simpa using h2, by simpa using h2⟩⟩)
    obtain ⟨ct, hct⟩ : ∃ A', A' = (if c2 = k then A2 else A2.map (·.add (k * 1))) := ⟨_, rfl⟩
    obtain ⟨pt, hpt⟩ : ∃ pt, pt = (b.drop k).take dp := ⟨_, rfl⟩
    have hptl : pt.length = dp := by rw [hpt, List.length_take, List.length_drop]; omega
    have HSL : Hid (∀ W, (Instr.slice 40 (.slice A2 b.length c2) (some (.int .i64 (k : Int))) (some (.int .i64 (y1 : Int))) none).run Try.prog W = .ok (.slice ct pt.length (c2 - k)) W) := Lib.hid (by
      intro W
      rw [run_slice_lh _ _ _ _ _ (by kernel_rfl) _ _ _ _ (by omega) (by omega) (by omega)]
      have hel : Try.prog.elem 40 = 9 := by kernel_rfl
      rw [hel, Try.sizeOf9]
      simp [sliced, Result.andThen, hct, hptl]
      omega)
    have HTC : Hid (∀ W, Below ge w4 W → TxtAt W 0 W.heap.size ct pt) := Lib.hid (fun W hW => by
      have h1 := (HT4.out.cut (k := k) (m := dp) c2 hc2)
      rw [← hct, ← hpt] at h1
      have hg4 : ge ≤ w4.heap.size := hge4
      exact (h1.of (fun x _ hx => hW.block x hx)).wide (Nat.le_refl _) (by have := hW.size; omega))
    have hL : (b.drop k).take (y1 - k) = pt := by rw [hpt, show y1 - k = dp by omega]
    have hX : (x1 : Int) - i = (dd : Int) := by omega
    rw [hL, hX] at HIN1 HIN2
    have hptb : pt.length ≤ 2000000 := by omega
    clear hL hX hct hpt hptl
    rcases hcase with ⟨hyn, h1, h1'⟩ | ⟨hyn, ⟨h1, h1'⟩, ⟨h2, h2'⟩⟩ | ⟨hyn, ⟨h1, h1'⟩, ⟨h2, h2'⟩⟩
    case inr.inr =>
      have HIN3 := Lib.hid (fun h => (HIN1.out h).2 hyn)
      have HIN4 := Lib.hid (fun h => (HIN2.out h).2 hyn)
      clear HIN1 HIN2 hyn
      by_cases hlt : p < P.length
      · have hpl1 : (p : Int) < (P.length : Int) := by omega
        have d0 := HGQ.out.hge.cell 0
        have f0 := HGQ.out.hge.frozen 0
        simp only [List.getElem?_cons_zero, List.getElem?_cons_succ] at d0
        go_upto_region 22 with fail
        have hG5 := HGQ.out.set 0 (.int .i64 ((keep : Int) + 1))
        simp only [List.set_cons_succ, List.set_cons_zero] at hG5
        have HG5 := Lib.hid hG5
        clear hG5 HGQ d0 f0
        generalize wq.setCell ⟨ge, 0, none⟩ (.int .i64 ((keep : Int) + 1)) = W5 at *
        obtain ⟨q1, q2⟩ := HCL.out W5 HG5.out.below
        have s3 : IntKind.i64.wrap ((x1 : Int) + 1) = (x1 : Int) + 1 := IntWalk.i64_in _ (by omega)
        have s4 : IntKind.i64.wrap ((y1 : Int) + 1) = (y1 : Int) + 1 := IntWalk.i64_in _ (by omega)
        go_quiet (fail)
        clear s3 s4 q1 q2
        go_wp2_with fail
        go_roundw
        case rel => exact ⟨p + 1, x1 + 1, y1 + 1, keep + 1, es, A, c, true, by omega, by go_num, by go_num, by go_num, rfl, by simp, rfl, by omega, by omega, HIN3.out hlt, HG5.out.next (below_drewN (Below.refl _ _) _)⟩
        case measure => simp [intOf]; omega
      · have hpe : p = P.length := by omega
        have hpl1 : (P.length : Int) ≤ (p : Int) := by omega
        have HPE := Lib.hid hpe
        clear hpe hlt
        go_upto_region 22 with fail
        obtain ⟨q1, q2⟩ := HCL.out wq HGQ.out.below
        have s3 : IntKind.i64.wrap ((x1 : Int) + 1) = (x1 : Int) + 1 := IntWalk.i64_in _ (by omega)
        have s4 : IntKind.i64.wrap ((y1 : Int) + 1) = (y1 : Int) + 1 := IntWalk.i64_in _ (by omega)
        go_quiet (fail)
        clear s3 s4 q1 q2
        go_wp2_with fail
        go_roundw
        case rel => exact ⟨p + 1, x1 + 1, y1 + 1, keep, es, A, c, bf, by omega, by go_num, by go_num, by go_num, rfl, HBF.out, rfl, by omega, by omega, HIN4.out HPE.out, HGQ.out.next (below_drewN (Below.refl _ _) _)⟩
        case measure => simp [intOf]; omega
    all_goals
      have d1 := HGQ.out.hge.cell 1
      have f1 := HGQ.out.hge.frozen 1
      simp only [List.getElem?_cons_zero, List.getElem?_cons_succ] at d1
      have HIN3 := Lib.hid (fun h => (HIN1.out h).1 hyn)
      have HIN4 := Lib.hid (fun h => (HIN2.out h).1 hyn)
      clear HIN1 HIN2 hyn
      go_wp2_with fail
      have hG1 := HGQ.out.set 1 (.int .i64 (dd : Int))
      simp only [List.set_cons_succ, List.set_cons_zero] at hG1
      have HG1 := Lib.hid hG1
      clear hG1 HGQ d1 f1
      generalize wq.setCell ⟨ge, 1, none⟩ (.int .i64 (dd : Int)) = W1 at *
      have d2 := HG1.out.hge.cell 2
      have f2 := HG1.out.hge.frozen 2
      have hgl1 := HG1.out.hge.lt
      simp only [List.getElem?_cons_zero, List.getElem?_cons_succ] at d2
      have s1 : IntKind.i64.wrap ((k : Int) + (dp : Int)) = (y1 : Int) := by rw [show (k : Int) + (dp : Int) = (y1 : Int) by omega]; exact IntWalk.i64_in _ (by omega)
      have hsl := HSL.out
      go_region_law ((refine step_append_put rfl (.tmp 69) (.tmp 75) rfl ct pt (c2 - k) rfl rfl (HTC.out _ HG1.out.below.drew) hptb ?_); intro A' n' c' w' hput hbe; have e2 := (hbe.cell (p := ⟨ge, 2, none⟩) hgl1).trans d2; have g2 := (hbe.frozen (p := ⟨ge, 2, none⟩) hgl1).trans f2; have HPUT := Lib.hid hput; have HBE := Lib.hid hbe; clear hput hbe)
      clear s1 hsl d2 f2 h1 h1'
      have hp2 : PutOwn w' (ge + 1) (⟨(keep : Int), (dd : Int), pt⟩, .slice A' n' c') := (HPUT.out _ _).low hgl1
      have hG2 := (HG1.out.next (show Below W1.heap.size W1 w' from ⟨HBE.out.os, HBE.out.tape, HBE.out.output, HBE.out.size, HBE.out.block⟩)).set 2 (.slice A' n' c')
      simp only [List.set_cons_succ, List.set_cons_zero] at hG2
      have hp3 : PutOwn (w'.setCell ⟨ge, 2, none⟩ (.slice A' n' c')) (ge + 1) (⟨(keep : Int), (dd : Int), pt⟩, .slice A' n' c') := by
        rcases hp2 with h | h
        · exact .inl h
        · exact .inr (ownsRow_setCell_below h (a := ⟨ge, 2, none⟩) (by simp) _)
      have HG2 := Lib.hid hG2
      have HP3 := Lib.hid hp3
      clear hG2 hp3 hp2 e2 g2 HG1 HPUT HBE
      generalize w'.setCell ⟨ge, 2, none⟩ (.slice A' n' c') = W2 at *
      have d0 := HG2.out.hge.cell 0
      have d1 := HG2.out.hge.cell 1
      have d2 := HG2.out.hge.cell 2
      have hgl2 := HG2.out.hge.lt
      simp only [List.getElem?_cons_zero, List.getElem?_cons_succ] at d0 d1 d2
      go_upto_region 17 with (at_builtin; refine wpList_append_blk rfl (.tmp 78) (.tmp 80) 22 43 3 40 rfl edE W2 W2 (ge + 1) (Below.refl _ _) (by omega) ((Below.refl _ _).alloc (Nat.le_refl _) _) (.slice A es.length c) es.length (edsCells es) rfl HG2.out.own W2.heap.size 1 [.int .i64 (keep : Int), .int .i64 (dd : Int), .slice A' n' c'] rfl (Blk.new' _ _ rfl) rfl (by simp [Value.oneCell']) (by unfold maxLen; omega) (by omega) ?_; intro v' w6 ho' hb' hg' hlt'; have HO6 := Lib.hid ho'; have HG6 := Lib.hid hg'; clear ho' hb' hg' hlt')
      obtain ⟨g6, cap6, rfl⟩ := ownsRow_succ HO6.out
      have hG3 := HG2.out.push (.cells #[.int .i64 (keep : Int), .int .i64 (dd : Int), .slice A' n' c'] 43) ⟨(keep : Int), (dd : Int), pt⟩ HP3.out HO6.out HG6.out
      have HG3 := Lib.hid hG3
      clear hG3 HG2 HP3 HO6 HG6 d0 d1 d2
      have d0 := HG3.out.hge.cell 0
      have d1 := HG3.out.hge.cell 1
      have d2 := HG3.out.hge.cell 2
      have f0 := HG3.out.hge.frozen 0
      have f1 := HG3.out.hge.frozen 1
      have f2 := HG3.out.hge.frozen 2
      simp only [List.getElem?_cons_zero, List.getElem?_cons_succ] at d0 d1 d2
      go_upto_region 19 with fail
      have hG4 := ((HG3.out.set 0 (.int .i64 0)).set 1 (.int .i64 0)).set 2 (.slice none 0 0)
      simp only [List.set_cons_succ, List.set_cons_zero] at hG4
      have HG4 := Lib.hid hG4
      clear hG4 HG3 d0 d1 d2 f0 f1 f2
      generalize ((w6.setCell ⟨ge, 0, none⟩ (.int .i64 0)).setCell ⟨ge, 1, none⟩ (.int .i64 0)).setCell ⟨ge, 2, none⟩ (.slice none 0 0) = W4 at *
      by_cases hlt : p < P.length
      · have hpl1 : (p : Int) < (P.length : Int) := by omega
        have d0 := HG4.out.hge.cell 0
        have f0 := HG4.out.hge.frozen 0
        simp only [List.getElem?_cons_zero, List.getElem?_cons_succ] at d0
        go_upto_region 22 with fail
        have hG5 := HG4.out.set 0 (.int .i64 1)
        simp only [List.set_cons_succ, List.set_cons_zero] at hG5
        have HG5 := Lib.hid hG5
        clear hG5 HG4 d0 f0
        generalize W4.setCell ⟨ge, 0, none⟩ (.int .i64 1) = W5 at *
        obtain ⟨q1, q2⟩ := HCL.out W5 HG5.out.below
        have s3 : IntKind.i64.wrap ((x1 : Int) + 1) = (x1 : Int) + 1 := IntWalk.i64_in _ (by omega)
        have s4 : IntKind.i64.wrap ((y1 : Int) + 1) = (y1 : Int) + 1 := IntWalk.i64_in _ (by omega)
        go_quiet (fail)
        clear s3 s4 q1 q2
        go_wp2_with fail
        go_roundw
        case rel => exact ⟨p + 1, x1 + 1, y1 + 1, 1, es ++ [(⟨(keep : Int), (dd : Int), pt⟩, .slice A' n' c')], some ⟨g6, 0, none⟩, cap6, true, by omega, by go_num, by go_num, by go_num, rfl, by simp, by simp, by omega, by omega, by rw [List.map_append]; exact HIN3.out hlt, by rw [List.length_append]; exact HG5.out.next (below_drewN (Below.refl _ _) _)⟩
        case measure => simp [intOf]; omega
      · have hpe : p = P.length := by omega
        have hpl1 : (P.length : Int) ≤ (p : Int) := by omega
        have HPE := Lib.hid hpe
        clear hpe hlt
        go_upto_region 22 with fail
        obtain ⟨q1, q2⟩ := HCL.out W4 HG4.out.below
        have s3 : IntKind.i64.wrap ((x1 : Int) + 1) = (x1 : Int) + 1 := IntWalk.i64_in _ (by omega)
        have s4 : IntKind.i64.wrap ((y1 : Int) + 1) = (y1 : Int) + 1 := IntWalk.i64_in _ (by omega)
        go_quiet (fail)
        clear s3 s4 q1 q2
        go_wp2_with fail
        go_roundw
        case rel => exact ⟨p + 1, x1 + 1, y1 + 1, 0, es ++ [(⟨(keep : Int), (dd : Int), pt⟩, .slice A' n' c')], some ⟨g6, 0, none⟩, cap6, false, by omega, by go_num, by go_num, by go_num, rfl, by simp, by simp, by omega, by omega, by rw [List.map_append]; exact HIN4.out HPE.out, by rw [List.length_append]; exact HG4.out.next (below_drewN (Below.refl _ _) _)⟩
        case measure => simp [intOf]; omega
end Go.Proofs.Ytakolehlaejhfaa
