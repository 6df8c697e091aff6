/- edits.Script: the walk. -/
import Derived.Test.YtakolehlaejhfaaEdScript
import Derived.Laws.EntriesVeiled
namespace Go.Proofs.Ytakolehlaejhfaa
open Go.RowKit Go.Shelf
set_option maxRecDepth 100000
set_option linter.unusedVariables false
set_option linter.unusedSimpArgs false
attribute [local go_sem] Oper.semAt_some

def ScriptOut (w : World) (a b : List Ln) (e : Ending) (w' : World) : Prop := ∃ v es, e = .returned (.tuple #[v, .int .i64 0]) ∧ es.map (·.1) = scriptB a b ∧ w'.ownsRow w.heap.size 43 3 v es.length (edsCells es) ∧ (∀ p ∈ es, PutOwn w' w.heap.size p) ∧ Below w.heap.size w w'

set_option maxHeartbeats 1000000 in
theorem script_big (x y : ByteArray) (w : World) (hx : x.size ≤ 1048576) (hy : y.size ≤ 1048576) (hbig : 1024 < (linesB x.data.toList).length ∨ 1024 < (linesB y.data.toList).length) :
    Calls Try.prog 9 #[.string x, .string y] w fun e w' => e = .returned (.tuple #[.slice none 0 0, .int .i64 2400]) ∧ Below w.heap.size w w' := by
  have hla := linesB_len x.data.toList
  have hlb := linesB_len y.data.toList
  have e1 : x.data.toList.length = x.size := by simp
  have e2 : y.data.toList.length = y.size := by simp
  obtain ⟨a, ha⟩ : ∃ a, a = linesB x.data.toList := ⟨_, rfl⟩
  obtain ⟨b, hb⟩ : ∃ b, b = linesB y.data.toList := ⟨_, rfl⟩
  rw [← ha] at hbig hla
  rw [← hb] at hbig hlb
  have HX := Lib.hid (lines_any x w hx)
  have HY := Lib.hid (fun W => lines_any y W hy)
  rw [← ha] at HX
  rw [← hb] at HY
  clear ha hb
  have hcase : ((1024 : Int) < (a.length : Int)) ∨ ((a.length : Int) ≤ 1024 ∧ (1024 : Int) < (b.length : Int)) := by omega
  clear hbig
  rcases hcase with h1 | ⟨h1, h1'⟩
  all_goals
    go_enter Try.func9, Try.ntmps9
    go_wp2_with fail
    refine HX.out.mono ?_
    rintro e w1 ⟨A1, c1, rfl, hc1, ht1, hb1⟩
    go_wp2_with fail
    refine (HY.out w1).mono ?_
    rintro e w2 ⟨A2, c2, rfl, hc2, ht2, hb2⟩
    have HB := Lib.hid (hb1.call hb2)
    clear hb1 hb2 ht1 ht2
    go_wp2_with fail
    refine bodyPost_ret (v := .tuple #[.slice none 0 0, .int .i64 2400]) (by simp [results, Try.f9, go_sem]) rfl ⟨rfl, ?_⟩
    have := HB.out
    exact this.alloc this.size _

/-- Behind a call of end that has written. -/
theorem scr_yes {w : World} {a b : List Ln} {A2 : Option Addr} {c2 bY : Nat} {T : Nat → Prop} {pre : List (Nat × Nat)} {i k keep : Nat} {v : Value} {es : List EdV} {W w1 : World} (hs : ScrAt w a b A2 c2 bY T pre i k keep v es W) {E : Ed} {g cap : Nat} {pv : Value}
    (hown : w1.ownsRow (bY + 6) 43 3 (.slice (some ⟨g, 0, none⟩) (es.length + 1) cap) (es.length + 1) (edsCells (es ++ [(E, pv)]))) (hput : PutOwn w1 W.heap.size (E, pv)) (hputs : ∀ p ∈ es, PutOwn w1 (bY + 6) p)
    (hblo : Blk w1 (bY + 1) [.slice (some ⟨g, 0, none⟩) (es.length + 1) cap] 22) (hblk : Blk w1 (bY + 2) [.int .i64 0] 3) (hat : v.ownBlock = some g ∨ W.heap.size ≤ g) (hkx : KX (fun x => x = bY + 1 ∨ x = bY + 2 ∨ v.ownBlock = some x) W w1) :
    EndSt (bY + 6) (bY + 3) (bY + 4) (bY + 1) (bY + 2) bY b A2 c2 0 i k (.slice (some ⟨g, 0, none⟩) (es.length + 1) cap) (es ++ [(E, pv)]) w1 ∧ KT (bY + 1) T W w1 ∧ w1.heap[bY + 5]? = W.heap[bY + 5]? ∧ Below (bY + 1) W w1 ∧
      (∀ g', (Value.slice (some ⟨g, 0, none⟩) (es.length + 1) cap).ownBlock = some g' → ¬ T g') ∧ (∀ p ∈ es ++ [(E, pv)], PutOff T p) := by
  have hz := hs.sz
  have hvo : ∀ x, v.ownBlock = some x → bY + 6 ≤ x := fun x hx => (hs.st.own.lt x hx).1
  have hbl : ∀ x, x < bY + 6 → x ≠ bY + 1 → x ≠ bY + 2 → w1.heap[x]? = W.heap[x]? := fun x h1 h2 h3 => hkx.block x (by omega) (by
    rintro (e | e | e)
    · exact h2 e
    · exact h3 e
    · have := hvo x e; omega)
  have hty : TxtAt w1 0 (bY + 1) A2 b := hs.ty.of fun x _ hx => hbl x (by omega) (by omega) (by omega)
  refine ⟨⟨(hbl _ (by omega) (by omega) (by omega)).trans hs.st.hi, (hbl _ (by omega) (by omega) (by omega)).trans hs.st.hq, hblo, hblk, (hbl _ (by omega) (by omega) (by omega)).trans hs.st.hy, hty.wide (Nat.le_refl _) (by have := hkx.size; omega), by simpa using hown, fun p hp => ?_⟩, ⟨hkx.size, fun y hy hyT => hkx.block y hy ?_⟩, hbl _ (by omega) (by omega) (by omega), ⟨hkx.os, hkx.tape, hkx.output, hkx.size, fun y hy => hbl y (by omega) (by omega) (by omega)⟩, fun g' hg' hT => ?_, fun p hp => ?_⟩
  · rcases List.mem_append.1 hp with hp | hp
    · exact hputs p hp
    · obtain rfl : p = (E, pv) := by simpa using hp
      exact hput.low hz
  · rintro (e | e | e)
    · rcases hyT with h | h
      · omega
      · have := (hs.tT y h).1; omega
    · rcases hyT with h | h
      · omega
      · have := (hs.tT y h).1; omega
    · rcases hyT with h | h
      · have := hvo y e; omega
      · exact hs.vT y e h
  · have : g' = g := by simpa [Value.ownBlock] using hg'.symm
    subst this
    rcases hat with h | h
    · exact hs.vT _ h hT
    · have := (hs.tT _ hT).2; omega
  · rcases List.mem_append.1 hp with hp | hp
    · exact hs.pT p hp
    · obtain rfl : p = (E, pv) := by simpa using hp
      rcases hput with h | h
      · exact .inl h
      · exact .inr fun g' hg' hT => by have := (h.lt g' hg').1; have := (hs.tT _ hT).2; omega

set_option maxHeartbeats 8000000 in
theorem script_any (x y : ByteArray) (w : World) (hx : x.size ≤ 1048576) (hy : y.size ≤ 1048576) (ha : (linesB x.data.toList).length ≤ 1024) (hb : (linesB y.data.toList).length ≤ 1024) :
    Calls Try.prog 9 #[.string x, .string y] w (ScriptOut w (linesB x.data.toList) (linesB y.data.toList)) := by
  have HX := Lib.hid (lines_any x w hx)
  have HY := Lib.hid (fun W => lines_any y W hy)
  generalize linesB x.data.toList = a at *
  generalize linesB y.data.toList = b at *
  refine callsIn_wide.1 (callsIn_of_wp_marks (F := Fence.wide) (n := 5) Try.func9 rfl trivial ?_ rfl)
  simp only [Try.ntmps9, List.size_toArray, List.length_cons, List.length_nil, Nat.reduceAdd, Nat.reduceSub, Array.replicate_succ, Array.replicate_zero, List.push_toArray, List.append_toArray, List.nil_append, List.cons_append]
  refine wpIn_wide.2 ?_
  go_wp2_with fail
  refine HX.out.mono ?_
  rintro e w1 ⟨A1, c1, rfl, hc1, ht1, hb1⟩
  go_wp2_with fail
  refine (HY.out w1).mono ?_
  rintro e w2 ⟨A2, c2, rfl, hc2, ht2, hb2⟩
  have HT1 := Lib.hid ht1
  have HT2 := Lib.hid ht2
  have HB1 := Lib.hid hb1
  have HB2 := Lib.hid hb2
  clear ht1 ht2 hb1 hb2
  go_wp2_with fail
  refine (pairsGives A1 A2 a.length b.length c1 c2 _).mono ?_
  rintro e w3 ⟨rfl, rfl⟩
  go_wp2_with fail
  obtain ⟨bY, hbY⟩ : ∃ n, n = w2.heap.size := ⟨_, rfl⟩
  rw [← hbY]
  simp only [Nat.add_assoc, Nat.reduceAdd]
  obtain ⟨W0, hW0⟩ : ∃ W0, ((((((((w2.alloc (.cells #[.slice A2 b.length c2] 40)).alloc (.cells #[.slice none 0 0] 22)).alloc (.cells #[.int .i64 0] 3)).alloc (.cells #[.int .i64 0] 3)).alloc (.cells #[.int .i64 0] 3)).alloc (.cells #[.func (.func 26) #[] #[.pointer (some ⟨bY + 3, 0, none⟩), .pointer (some ⟨bY + 4, 0, none⟩), .pointer (some ⟨bY + 1, 0, none⟩), .pointer (some ⟨bY + 2, 0, none⟩), .pointer (some ⟨bY, 0, none⟩)]] 53)).alloc (.cells #[.slice A1 a.length c1] 40)).alloc (.cells #[.slice A2 b.length c2] 40)) = W0 := ⟨_, rfl⟩
  rw [hW0]
  have hz0 : W0.heap.size = bY + 8 := by rw [← hW0]; simp [hbY]
  have hbw : w.heap.size ≤ bY := by have h1 := HB1.out.size; have h2 := HB2.out.size; omega
  have hb20 : Below bY w2 W0 := by
    rw [← hW0]
    have e : bY ≤ w2.heap.size := by omega
    exact ((((((((Below.refl bY w2).alloc e _).alloc (by simp; omega) _).alloc (by simp; omega) _).alloc (by simp; omega) _).alloc (by simp; omega) _).alloc (by simp; omega) _).alloc (by simp; omega) _).alloc (by simp; omega) _
  have hblk : Blk W0 bY [.slice A2 b.length c2] 40 ∧ Blk W0 (bY + 1) [.slice none 0 0] 22 ∧ Blk W0 (bY + 2) [.int .i64 0] 3 ∧ Blk W0 (bY + 3) [.int .i64 0] 3 ∧ Blk W0 (bY + 4) [.int .i64 0] 3 ∧ Blk W0 (bY + 5) [.func (.func 26) #[] #[.pointer (some ⟨bY + 3, 0, none⟩), .pointer (some ⟨bY + 4, 0, none⟩), .pointer (some ⟨bY + 1, 0, none⟩), .pointer (some ⟨bY + 2, 0, none⟩), .pointer (some ⟨bY, 0, none⟩)]] 53 ∧ Blk W0 (bY + 6) [.slice A1 a.length c1] 40 ∧ Blk W0 (bY + 7) [.slice A2 b.length c2] 40 := by
    rw [← hW0]
    refine ⟨?_, ?_, ?_, ?_, ?_, ?_, ?_, ?_⟩
    · exact (((((((Blk.new' _ _ hbY).alloc _).alloc _).alloc _).alloc _).alloc _).alloc _).alloc _
    · exact ((((((Blk.new' _ _ (by simp [hbY])).alloc _).alloc _).alloc _).alloc _).alloc _).alloc _
    · exact (((((Blk.new' _ _ (by simp [hbY])).alloc _).alloc _).alloc _).alloc _).alloc _
    · exact ((((Blk.new' _ _ (by simp [hbY])).alloc _).alloc _).alloc _).alloc _
    · exact (((Blk.new' _ _ (by simp [hbY])).alloc _).alloc _).alloc _
    · exact ((Blk.new' _ _ (by simp [hbY])).alloc _).alloc _
    · exact (Blk.new' _ _ (by simp [hbY])).alloc _
    · exact Blk.new' _ _ (by simp [hbY])
  have ht1 : TxtAt W0 0 bY A1 a := ((HT1.out.wide (Nat.zero_le _) (Nat.le_refl _)).below (HB2.out) (Nat.le_refl _) |>.wide (Nat.le_refl _) (by have := HB2.out.size; omega)).below hb20 (Nat.le_refl _)
  have ht2 : TxtAt W0 0 bY A2 b := (HT2.out.wide (Nat.zero_le _) (by omega)).below hb20 (Nat.le_refl _)
  have hbW0 : Below w.heap.size w W0 := (HB1.out.call HB2.out).trans (hb20.mono hbw)
  clear hW0 hbY
  have HT1' := Lib.hid ht1
  have HT2' := Lib.hid ht2
  have HBLK := Lib.hid hblk
  have HBW0 := Lib.hid hbW0
  clear ht1 ht2 hblk hbW0 hb20
  refine range_lawT (α := Nat × Nat) (n0 := bY + 1) (m0 := bY + 6) (X := fun _ => False) (S := fun xs => xs = pairsB a b 0 0) (Sp := fun pre => ∃ r, pre ++ r = pairsB a b 0 0) (gf := 38) (lb := #[.pointer (some ⟨bY + 6, 0, none⟩), .pointer (some ⟨bY + 7, 0, none⟩)]) rfl (enters_of Try.func38 (by kernel_rfl) rfl) (encs := encP) (fun _ => rfl) (by omega) (fun b hb => hb.elim)
    (fun W hW => pairs_iter a b A1 A2 c1 c2 (bY + 6) (bY + 7) (bY + 1) (bY + 6) W ha hb ((hW.cell (p := ⟨bY + 6, 0, none⟩) (by show bY + 6 < _; omega)).trans (HBLK.out.2.2.2.2.2.2.1.cell 0)) ((hW.cell (p := ⟨bY + 7, 0, none⟩) (by show bY + 7 < _; omega)).trans (HBLK.out.2.2.2.2.2.2.2.cell 0))
      ((HT1'.out.below hW (by omega)).wide (Nat.le_refl _) (by omega)) ((HT2'.out.below hW (by omega)).wide (Nat.le_refl _) (by omega)) (by omega) (by omega) (by have := hW.size; omega) (by have := hW.size; omega) (by have := hW.size; omega) (by have := hW.size; omega))
    (fun T pre W => ∃ i k keep v es, ScrAt w a b A2 c2 bY T pre i k keep v es W) (fun _ _ _ => False)
    (fun T pre A B h hk => by obtain ⟨i, k, keep, v, es, h⟩ := h; exact ⟨i, k, keep, v, es, h.next hk⟩) (fun _ _ _ _ h _ => h)
    (fun T B hT hk => ⟨0, 0, 0, .slice none 0 0, [], by
      have hbl : ∀ x, x < W0.heap.size → B.heap[x]? = W0.heap[x]? := fun x hx => hk.block x hx (fun h => h)
      have hz := hk.size
      obtain ⟨g0, g1, g2, g3, g4, g5, _, _⟩ := HBLK.out
      exact ⟨by simp, by simp [scriptB], Nat.zero_le _, Nat.zero_le _, Nat.zero_le _, Nat.zero_le _, ⟨(hbl _ (by omega)).trans g3, (hbl _ (by omega)).trans g4, (hbl _ (by omega)).trans g1, (hbl _ (by omega)).trans g2, (hbl _ (by omega)).trans g0, (HT2'.out.of fun x _ hx => hbl x (by omega)).wide (Nat.le_refl _) (by omega), World.ownsRow_nil _ _ _ _, by simp⟩,
        (HT2'.out.of fun x _ hx => hbl x (by omega)).wide (Nat.le_refl _) (by omega), (World.cell?_of_block (w := W0) (a := ⟨bY + 5, 0, none⟩) (hbl (bY + 5) (by omega))).trans (g5.cell 0), (fun g hg => by cases hg), by simp, hT, HBW0.out.trans ⟨hk.os, hk.tape, hk.output, hk.size, fun x hx => hbl x (by omega)⟩, by omega, hbw⟩⟩)
    (fun p => { tmps := #[.string x, .string y, undef, undef, .slice none 0 0, .int .i64 0, .slice A1 a.length c1, .pointer (some ⟨bY, 0, none⟩), .pointer (some ⟨bY + 1, 0, none⟩), .pointer (some ⟨bY + 2, 0, none⟩), .pointer (some ⟨bY + 3, 0, none⟩), .pointer (some ⟨bY + 4, 0, none⟩), .pointer (some ⟨bY + 5, 0, none⟩), .int .i64 (p.1 : Int), .int .i64 (p.2 : Int), .string x, .slice A1 a.length c1, .string y, .slice A2 b.length c2, .slice A1 a.length c1, .int .i64 (a.length : Int), .bool (decide ((1024 : Int) < (a.length : Int))), .bool (decide ((1024 : Int) < (a.length : Int))), .slice A2 b.length c2, .int .i64 (b.length : Int), .bool (decide ((1024 : Int) < (b.length : Int))), .bool (decide ((1024 : Int) < (a.length : Int)) || decide ((1024 : Int) < (b.length : Int))), .func (.func 26) #[] #[.pointer (some ⟨bY + 3, 0, none⟩), .pointer (some ⟨bY + 4, 0, none⟩), .pointer (some ⟨bY + 1, 0, none⟩), .pointer (some ⟨bY + 2, 0, none⟩), .pointer (some ⟨bY, 0, none⟩)], .slice A1 a.length c1, .slice A2 b.length c2, .func (.func 38) #[] #[.pointer (some ⟨bY + 6, 0, none⟩), .pointer (some ⟨bY + 7, 0, none⟩)], .int .i64 (p.1 : Int), .int .i64 (p.2 : Int), undef, undef, undef, undef, undef, undef, undef, undef, undef, undef, undef, undef, undef, undef, undef, undef, undef, undef, undef, undef, undef, undef, undef, undef], defers := [] }) ?assign ?body ?done ?stop
  case assign =>
    intro l p W K hK
    simp only [encP]
    gi_wp2
    exact hK
  case body =>
    rintro T hT l pre p W ⟨r, hr⟩ ⟨i, k, keep, v, es, hs⟩
    obtain ⟨q1, q2, q3, q4, q5⟩ := pairs_go hs.ps hr hs.hi hs.hk
    have hpl : pre.length + 1 ≤ 1024 := by
      have h1 := congrArg List.length hr
      rw [pairsB_len] at h1
      have h2 := lcs_le a b
      simp only [List.length_append, List.length_cons, List.length_nil] at h1
      omega
    have hkp := hs.hkeep
    have hel := hs.hes
    have hps := hs.ps
    rw [q5] at hps
    have heds := hs.eds
    rw [q5] at heds
    have HPS := Lib.hid hps
    have HEDS := Lib.hid heds
    have HS := Lib.hid hs
    have hfn := hs.fn
    have hz := hs.sz
    by_cases hc : i < p.1 ∨ k < p.2
    · have HE := Lib.hid (end_yes (bY + 6) (bY + 3) (bY + 4) (bY + 1) (bY + 2) bY b A2 c2 keep i k p.1 p.2 v es W hs.st hc2 hc q1 q3 (by omega) (by omega) hb (by omega) (by omega) hs.sz (by omega) (by omega) (by omega) (by omega) (by omega) (by omega) (by omega) (by omega) (by omega))
      have HC := Lib.hid hc
      clear hs hc hps heds q5 hr
      gi_wp2_with fail
      refine ⟨trivial, ?_⟩
      refine (CallsIn.inRound l (callsIn_wide.2 HE.out)).mono ?_
      rintro e w1 ⟨rfl, g, cap, pv, hown, hput, hputs, hblo, hblk, hat, hkx⟩
      obtain ⟨y1, y2, y3, y4, y5, y6⟩ := scr_yes HS.out hown hput hputs hblo hblk hat hkx
      have d2 := y1.hk.cell 0
      have d3 := y1.hi.cell 0
      have d4 := y1.hq.cell 0
      have f2 := y1.hk.frozen 0
      have f3 := y1.hi.frozen 0
      have f4 := y1.hq.frozen 0
      simp only [List.getElem?_cons_zero] at d2 d3 d4
      have Y1 := Lib.hid y1
      have Y2 := Lib.hid y2
      have Y3 := Lib.hid y3
      have Y4 := Lib.hid y4
      have Y5 := Lib.hid y5
      have Y6 := Lib.hid y6
      clear y1 y2 y3 y4 y5 y6 hown hput hputs hblo hblk hat hkx hfn
      gi_wp2_with fail
      have hfin := ScrAt.put HS.out Y1.out Y2.out Y3.out Y4.out p (keep' := 1) (i' := p.1 + 1) (k' := p.2 + 1) (by rw [List.append_assoc]; exact HPS.out) (by rw [List.map_append, List.append_assoc, ← HEDS.out, edsB_yes _ _ _ _ _ _ _ HC.out]; rfl) (by omega) (by omega) (by omega) (by simp; omega) Y5.out Y6.out rfl
      exact ⟨hfin.1, _, _, _, _, _, hfin.2⟩
    · have HE := Lib.hid (end_no (bY + 6) (bY + 3) (bY + 4) (bY + 1) (bY + 2) bY b A2 c2 keep i k p.1 p.2 v es W hs.st (by omega) (by omega))
      have HC := Lib.hid hc
      have d2 := hs.st.hk.cell 0
      have d3 := hs.st.hi.cell 0
      have d4 := hs.st.hq.cell 0
      have f2 := hs.st.hk.frozen 0
      have f3 := hs.st.hi.frozen 0
      have f4 := hs.st.hq.frozen 0
      simp only [List.getElem?_cons_zero] at d2 d3 d4
      clear hs hc hps heds q5 hr
      gi_wp2_with fail
      refine ⟨trivial, ?_⟩
      refine (CallsIn.inRound l (callsIn_wide.2 HE.out)).mono ?_
      rintro e w1 ⟨rfl, rfl⟩
      gi_wp2_with fail
      have hfin := ScrAt.put HS.out HS.out.st (KT.refl _ _ _) rfl (Below.refl _ _) p (keep' := keep + 1) (i' := p.1 + 1) (k' := p.2 + 1) (by rw [List.append_assoc]; exact HPS.out) (by rw [← HEDS.out, edsB_no _ _ _ _ _ _ _ HC.out]) (by omega) (by omega) (by omega) (by omega) HS.out.vT HS.out.pT rfl
      exact ⟨hfin.1, _, _, _, _, _, hfin.2⟩
  case done =>
    rintro D T xs W hD hTD rfl ⟨i, k, keep, v, es, hs⟩ hK
    have hnil : pairsB (a.drop i) (b.drop k) i k = [] := by
      exact List.append_cancel_left (show pairsB a b 0 0 ++ pairsB (a.drop i) (b.drop k) i k = pairsB a b 0 0 ++ [] by rw [List.append_nil]; exact hs.ps)
    have heds := hs.eds
    rw [hnil] at heds
    have hkp := hs.hkeep
    rw [pairsB_len] at hkp
    have hel := hs.hes
    rw [pairsB_len] at hel
    have hlc := lcs_le a b
    have hz := hs.sz
    have hfn := hs.fn
    have dy := hs.st.hy.cell 0
    simp only [List.getElem?_cons_zero] at dy
    have HEDS := Lib.hid heds
    have HS := Lib.hid hs
    have HKD := Lib.hid hK
    have hDl : bY + 8 ≤ D := by omega
    have hDW : D < W.heap.size := (Array.getElem?_eq_some_iff.1 hK).1
    have hvD : v.ownBlock ≠ some D := fun e => hs.vT D e hTD
    have HVD := Lib.hid hvD
    -- what is left to show, whatever the last row is
    have fin : ∀ (W' : World) (v' : Value) (es' : List EdV), es'.map (·.1) = scriptB a b → W'.ownsRow (bY + 6) 43 3 v' es'.length (edsCells es') → (∀ p ∈ es', PutOwn W' (bY + 6) p) → (∀ g, v'.ownBlock = some g → g ≠ D) → Below (bY + 1) W W' → W'.heap[D]? = some (.deferred (some [])) →
        ScriptOut w a b (.returned (.tuple #[v', .int .i64 0])) (W'.putObj D (.deferred none)) := by
      intro W' v' es' h1 h2 h3 h4 h5 h6
      have hk : KX (fun x => x = D) W' (W'.putObj D (.deferred none)) := KX.putObj W' (X := fun x => x = D) rfl _
      have hbw := HS.out.bw
      refine ⟨v', es', rfl, h1, own_low (own_kx h2 hk h4) (by omega), fun p hp => ((h3 p hp).kx hk fun g _ _ hcur e => ?_).low (by omega), ?_⟩
      · obtain ⟨cur, hcur⟩ := hcur
        rw [e, h6] at hcur
        cases hcur
      · have hb := HS.out.below.trans (h5.mono (by omega : w.heap.size ≤ bY + 1))
        exact hb.trans ⟨rfl, rfl, rfl, by simp, fun z hz' => World.putObj_heap_other (by omega)⟩
    have FIN := Lib.hid fin
    clear hs heds hK hnil hD hTD hvD fin
    by_cases hc : i < a.length ∨ k < b.length
    · have HE := Lib.hid (end_yes (bY + 6) (bY + 3) (bY + 4) (bY + 1) (bY + 2) bY b A2 c2 keep i k a.length b.length v es W HS.out.st hc2 hc HS.out.hi HS.out.hk (Nat.le_refl _) ha hb (by omega) (by omega) hz (by omega) (by omega) (by omega) (by omega) (by omega) (by omega) (by omega) (by omega) (by omega))
      have HC := Lib.hid hc
      clear hc
      go_wp2_with fail
      refine HE.out.mono ?_
      rintro e w1' ⟨rfl, g, cap, pv, hown, hput, hputs, hblo, hblk, hat, hkx⟩
      obtain ⟨y1, y2, y3, y4, y5, y6⟩ := scr_yes HS.out hown hput hputs hblo hblk hat hkx
      have d2 := y1.hk.cell 0
      have d1 := y1.ho.cell 0
      simp only [List.getElem?_cons_zero] at d1 d2
      have hgD : g ≠ D := by
        rintro rfl
        rcases hat with h | h
        · exact HVD.out h
        · omega
      have hKD : w1'.heap[D]? = some (.deferred (some [])) := (hkx.block D hDW (by
        rintro (e | e | e)
        · omega
        · omega
        · exact HVD.out e)).trans HKD.out
      have hO := FIN.out w1' _ _ (by rw [List.map_append, ← HEDS.out, edsB_nil, if_pos HC.out]; simp [List.take_of_length_le]) (by simpa using y1.own) y1.puts (fun g' hg' => by
        have : g' = g := by simpa [Value.ownBlock] using hg'.symm
        rw [this]; exact hgD) y4 hKD
      have HO := Lib.hid hO
      have HK2 := Lib.hid hKD
      clear y1 y2 y3 y4 y5 y6 hown hput hputs hblo hblk hat hkx hfn hKD hO
      go_wp2_with fail
      refine ⟨by simp, .inl ⟨_, _, rfl, run_takeDeferred HK2.out, ?_⟩⟩
      exact ⟨_, by simp [results, Try.f9, go_sem], HO.out⟩
    · have HE := Lib.hid (end_no (bY + 6) (bY + 3) (bY + 4) (bY + 1) (bY + 2) bY b A2 c2 keep i k a.length b.length v es W HS.out.st (by omega) (by omega))
      have HC := Lib.hid hc
      have d1 := HS.out.st.ho.cell 0
      have d2 := HS.out.st.hk.cell 0
      have f1 := HS.out.st.ho.frozen 0
      simp only [List.getElem?_cons_zero] at d1 d2
      clear hc
      by_cases hk0 : keep = 0
      · subst hk0
        have hO := FIN.out W v es (by rw [← HEDS.out, edsB_nil, if_neg HC.out]; simp) HS.out.st.own HS.out.st.puts (fun g hg e => HVD.out (e ▸ hg)) (Below.refl _ _) HKD.out
        have HO := Lib.hid hO
        clear hO
        go_wp2_with fail
        refine HE.out.mono ?_
        rintro e w1' ⟨rfl, rfl⟩
        go_wp2_with fail
        refine ⟨by simp, .inl ⟨_, _, rfl, run_takeDeferred HKD.out, ?_⟩⟩
        exact ⟨_, by simp [results, Try.f9, go_sem], HO.out⟩
      · have hk1 : (0 : Int) < (keep : Int) := by omega
        obtain ⟨i0, z0, hT1, hi0, hz0', hz1', hzb, hz4, hz5⟩ := edE
        have HED := Lib.hid (And.intro hi0 (And.intro hz0' (And.intro hz1' (And.intro hzb hz4))))
        have HVO : Hid (v.ownBlock ≠ some (bY + 1)) := Lib.hid (fun e => by have := (HS.out.st.own.lt _ e).1; omega)
        have lo := HS.out.st.ho.lt
        clear hi0 hz0' hz1' hzb hz4 hT1
        go_wp2_with fail
        refine HE.out.mono ?_
        rintro e w1' ⟨rfl, rfl⟩
        go_wp2_with (at_builtin; refine wpList_append_lies _ rfl _ _ 22 rfl (bY + 6) 43 i0 z0 3 40 Try.underlying22 HED.out.1 HED.out.2.1 HED.out.2.2.1 HED.out.2.2.2.1 HED.out.2.2.2.2 (by omega) v es.length (edsCells es) rfl (HS.out.st.own.alloc _) ⟨W.heap.size, 0, none⟩ 1 1 [.int .i64 (keep : Int), .int .i64 0, .slice none 0 0] rfl rfl (World.news_of_block (cs := #[.int .i64 (keep : Int), .int .i64 0, .slice none 0 0]) (t := 43) (fr := (0, 0)) (heap_alloc_new W _)) (by simp [Value.oneCell']) (by omega) (by unfold maxLen; omega) (by omega) (by simp; omega) (W.heap.size + 1) (by simp) ?_; intro g cap w2' hown hgrow hat hglt; have e1 := (hgrow.cell_far ⟨bY + 1, 0, none⟩ (by simp; omega) (Ne.symm HVO.out)).trans ((cell_alloc W _ _ lo).trans d1); have g1 := (hgrow.frozen_far ⟨bY + 1, 0, none⟩ (by simp; omega) (Ne.symm HVO.out)).trans ((frozen_alloc W _ _ lo).trans f1))
        refine ⟨by simp, .inl ?_⟩
        have hgD : g ≠ D := by
          rintro rfl
          rcases hat with h | h
          · exact HVD.out h
          · omega
        have hbl : ∀ z, z < W.heap.size → z ≠ bY + 1 → v.ownBlock ≠ some z → (w2'.setCell ⟨bY + 1, 0, none⟩ (.slice (some ⟨g, 0, none⟩) (es.length + 1) cap)).heap[z]? = W.heap[z]? := fun z hz' e1 e2 =>
          (Below.heap_setCell _ _ _ z (by simpa using e1)).trans ((hgrow.block z (by simp; omega) (Ne.symm e2)).trans (Below.heap_alloc W _ z hz'))
        have hKD := (hbl D hDW (by omega) HVD.out).trans HKD.out
        refine ⟨_, _, rfl, run_takeDeferred hKD, ?_⟩
        refine ⟨.tuple #[.slice (some ⟨g, 0, none⟩) (es.length + 1) cap, .int .i64 0], by simp [results, Try.f9, go_sem], FIN.out _ _ (es ++ [(⟨keep, 0, []⟩, .slice none 0 0)]) ?_ ?_ ?_ ?_ ?_ hKD⟩
        · rw [List.map_append, ← HEDS.out, edsB_nil, if_neg HC.out, if_pos (by omega)]
          rfl
        · rw [edsCells_snoc, List.length_append]
          exact ownsRow_setCell_below hown (by simp) _
        · intro p hp
          rcases List.mem_append.1 hp with hp | hp
          · rcases HS.out.st.puts p hp with h | h
            · exact .inl h
            · refine .inr ⟨h.1, ?_⟩
              rcases h.2 with h2 | ⟨q, cq, cur, e1, e2, e3, e4⟩
              · exact .inl h2
              · refine .inr ⟨q, cq, cur, e1, e2, (hbl q (Array.getElem?_eq_some_iff.1 e3).1 (by omega) ?_).trans e3, e4⟩
                intro e
                rcases HS.out.st.own.2 with ⟨h2, _⟩ | ⟨q', _, cur', h2, _, h3, _⟩
                · rw [h2] at e; cases e
                · rw [h2] at e
                  have : q' = q := by simpa [Value.ownBlock] using e
                  subst this
                  rw [e3] at h3; cases h3
          · obtain rfl : p = (⟨keep, 0, []⟩, .slice none 0 0) := by simpa using hp
            exact .inl ⟨none, 0, rfl, rfl⟩
        · intro g' hg'
          have : g' = g := by simpa [Value.ownBlock] using hg'.symm
          rw [this]; exact hgD
        · exact ⟨hgrow.os, hgrow.tape, hgrow.output, by have := hgrow.size; simp at this ⊢; omega, fun z hz' => hbl z (by omega) (by omega) (fun e => by have := (HS.out.st.own.lt _ e).1; omega)⟩
  case stop =>
    rintro D c pre W hD _ h
    exact h.elim
end Go.Proofs.Ytakolehlaejhfaa
