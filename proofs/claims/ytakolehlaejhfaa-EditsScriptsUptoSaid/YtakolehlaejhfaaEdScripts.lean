/- EditsScripts: the walk. -/
import Derived.Test.YtakolehlaejhfaaRefScript
import Derived.Test.YtakolehlaejhfaaEdSpoil
import Derived.Test.YtakolehlaejhfaaEdSame
import Derived.Test.YtakolehlaejhfaaEdBackPlain
import Derived.Test.YtakolehlaejhfaaEdLongPlain
namespace Go.Proofs.Ytakolehlaejhfaa
open Go.RowKit
set_option maxRecDepth 100000
set_option linter.unusedVariables false
set_option linter.unusedSimpArgs false

set_option maxHeartbeats 4000000 in
theorem refScript_big (x y : Ln) (w : World) (hx : x.length ≤ 1048576) (hy : y.length ≤ 1048576) (hbig : 1024 < (linesB x).length ∨ 1024 < (linesB y).length) :
    Calls Try.prog 10 #[.string (strOf x), .string (strOf y)] w fun e w' => e = .returned (.tuple #[.slice none 0 0, .int .i64 2400]) ∧ Below w.heap.size w w' := by
  have hlx := linesB_len x
  have hly := linesB_len y
  have HX := Lib.hid (refLines_any x w hx)
  have HY := Lib.hid (fun W => refLines_any y W hy)
  generalize linesB x = a at *
  generalize linesB y = b at *
  have hc : (1024 : Int) < (a.length : Int) ∨ ((a.length : Int) ≤ 1024 ∧ (1024 : Int) < (b.length : Int)) := by omega
  clear hbig
  rcases hc with h1 | ⟨h1, h2⟩
  all_goals
    go_enter Try.func10, Try.ntmps10
    go_wp2_with fail
    refine HX.out.mono ?_
    rintro e w1 ⟨A1, c1, rfl, hc1, ht1, hb1⟩
    have HB1 := Lib.hid hb1
    clear ht1 hb1 HX
    go_wp2_with fail
    refine (HY.out w1).mono ?_
    rintro e w2 ⟨A2, c2, rfl, hc2, ht2, hb2⟩
    have HB2 := Lib.hid (HB1.out.call hb2)
    clear ht2 hb2 HB1 HY
    go_wp2_with fail
    go_ret2
    exact ⟨rfl, HB2.out⟩

theorem TexSp.of_put {W : World} {B : Nat} {E : Ed} {A : Option Addr} {n c S : Nat} (h : PutOwn W B (E, .slice A n c)) (hS : ∀ l ∈ E.put, l.length ≤ S) : n = E.put.length ∧ TexSp W B W.heap.size A n S := by
  rcases h with ⟨A', c', e, e2⟩ | h
  · cases e
    exact ⟨by simp only [] at e2; rw [e2]; rfl, fun h0 => by omega⟩
  · rcases h.2 with ⟨e, hn⟩ | ⟨g, cap, cur, e, hg, hc, _⟩
    · have e' : Value.slice A n c = .slice none 0 0 := e
      injection e' with e1 e2 e3
      have hn' : E.put.length = 0 := hn
      exact ⟨by omega, fun h0 => by omega⟩
    · have e' : Value.slice A n c = .slice (some ⟨g, 0, none⟩) E.put.length cap := e
      injection e' with e1 e2 e3
      subst e1 e2 e3
      refine ⟨rfl, fun h0 => ⟨g, 0, rfl, hg, (Array.getElem?_eq_some_iff.1 hc).1, fun k hk => ?_⟩⟩
      have h1 := h.cellAt k (by simp at hk ⊢; omega)
      have h2 := h.frozenAt k
      rw [Nat.zero_add]
      have hkl : k < E.put.length := hk
      refine ⟨strOf (E.put[k]'hkl), ?_, ?_, h2⟩
      · rw [h1]; simp [strVal, hkl]
      · rw [strOf_size]; exact hS _ (List.getElem_mem hkl)
theorem EdsSp.of_own {W : World} {B c S : Nat} {A : Option Addr} {es : List EdV} (h : W.ownsRow B 43 3 (.slice A es.length c) es.length (edsCells es)) (hp : ∀ p ∈ es, PutOwn W B p) (hS : ∀ p ∈ es, p.1.put.length ≤ 2000000 ∧ ∀ l ∈ p.1.put, l.length ≤ S) :
    EdsSp W B W.heap.size A es.length S := fun h0 => by
  rcases h.2 with ⟨e, hn⟩ | ⟨g, cap, cur, e, hg, hc, _⟩
  · omega
  · cases e
    refine ⟨g, 0, rfl, hg, (Array.getElem?_eq_some_iff.1 hc).1, fun k hk => ?_⟩
    obtain ⟨q1, q2, q3⟩ := edsCells_at es k hk
    have hm := List.getElem_mem hk
    have hpk := hp _ hm
    obtain ⟨s1, s2⟩ := hS _ hm
    obtain ⟨PA, pn, pc, ev⟩ : ∃ PA pn pc, es[k].2 = .slice PA pn pc := by
      rcases hpk with ⟨A, c, e, _⟩ | h
      · exact ⟨_, _, _, e⟩
      · rcases h.2 with ⟨e, _⟩ | ⟨_, _, _, e, _⟩
        · exact ⟨_, _, _, e⟩
        · exact ⟨_, _, _, e⟩
    have e3 : es[k] = (es[k].1, .slice PA pn pc) := by rw [← ev]
    rw [e3] at hpk
    obtain ⟨t1, t2⟩ := TexSp.of_put hpk s2
    refine ⟨es[k].1.keep, PA, pn, pc, ?_, ?_, ?_, by rw [t1]; exact s1, t2⟩
    · rw [Nat.zero_add, h.cellAt (k * 3) (by omega)]; exact q1
    · exact h.frozenAt _
    · rw [Nat.zero_add, h.cellAt (k * 3 + 2) (by omega), q3, ev]
theorem TexSp.of {w w' : World} {lo hi n S : Nat} {A : Option Addr} (h : TexSp w lo hi A n S) (hs : ∀ b, lo ≤ b → b < hi → w'.heap[b]? = w.heap[b]?) : TexSp w' lo hi A n S := fun h0 => by
  obtain ⟨b, o, e, h1, h2, h3⟩ := h h0
  refine ⟨b, o, e, h1, h2, fun k hk => ?_⟩
  obtain ⟨s, e1, e2, e3⟩ := h3 k hk
  exact ⟨s, (World.cell?_of_block (w := w) (hs b h1 h2)).trans e1, e2, (World.frozen?_of_block (w := w) (hs b h1 h2)).trans e3⟩
theorem EdsSp.of {w w' : World} {lo hi n S : Nat} {A : Option Addr} (h : EdsSp w lo hi A n S) (hs : ∀ b, lo ≤ b → b < hi → w'.heap[b]? = w.heap[b]?) : EdsSp w' lo hi A n S := fun h0 => by
  obtain ⟨b, o, e, h1, h2, h3⟩ := h h0
  refine ⟨b, o, e, h1, h2, fun k hk => ?_⟩
  obtain ⟨z, PA, pn, pc, e1, e2, e3, e4, e5⟩ := h3 k hk
  exact ⟨z, PA, pn, pc, (World.cell?_of_block (w := w) (hs b h1 h2)).trans e1, (World.frozen?_of_block (w := w) (hs b h1 h2)).trans e2, (World.cell?_of_block (w := w) (hs b h1 h2)).trans e3, e4, e5.of hs⟩

/-- What both Scripts give, few lines or many. -/
def ScrOut (L : List Ed) (code : Int) (W : World) (e : Ending) (w' : World) : Prop :=
  ∃ A c, e = .returned (.tuple #[.slice A L.length c, .int .i64 code]) ∧ EdsAt w' W.heap.size w'.heap.size A L ∧ EdsSp w' W.heap.size w'.heap.size A L.length 1048576 ∧ Below W.heap.size W w'
theorem mem_flat {L : List Ln} {t : Ln} (h : t ∈ L) : t.length ≤ L.flatten.length := by
  induction L with
  | nil => simp at h
  | cons x xs ih =>
    rw [List.flatten_cons, List.length_append]
    rcases List.mem_cons.1 h with rfl | h
    · omega
    · have := ih h; omega
theorem put_le (es : List Ed) : ∀ e ∈ es, e.put.flatten.length ≤ putSum es := by
  induction es with
  | nil => intro e h; simp at h
  | cons x xs ih =>
    intro e h
    have e1 : putSum (x :: xs) = x.put.flatten.length + putSum xs := by simp [putSum]
    rcases List.mem_cons.1 h with rfl | h
    · omega
    · have := ih e h; omega
theorem scr_out {W w' : World} {a b : List Ln} {e : Ending} (h : ScriptOut W a b e w') (hb : b.flatten.length ≤ 1048576) (hbl : b.length ≤ 1024) : ScrOut (scriptB a b) 0 W e w' := by
  obtain ⟨v, es, rfl, hes, hown, hput, hbe⟩ := h
  obtain ⟨A, c, rfl, hc, hE⟩ := out_eds hown hput
  have hle : es.length = (scriptB a b).length := by rw [← hes, List.length_map]
  refine ⟨A, c, by rw [hle], by rw [← hes]; exact hE, ?_, hbe⟩
  rw [← hle]
  refine EdsSp.of_own hown hput fun p hp => ?_
  have hm : p.1 ∈ scriptB a b := by rw [← hes]; exact List.mem_map_of_mem hp
  have h1 := (put_script a b).2 _ hm
  have h2 := put_le _ _ hm
  have h3 := (put_script a b).1
  exact ⟨by omega, fun l hl => by have := mem_flat hl; omega⟩
theorem scr_big {W w' : World} {e : Ending} (h : e = .returned (.tuple #[.slice none 0 0, .int .i64 2400]) ∧ Below W.heap.size W w') : ScrOut [] 2400 W e w' := by
  obtain ⟨rfl, hb⟩ := h
  exact ⟨none, 0, rfl, EdsAt.nil _ _ _ _, fun h0 => by simp at h0, hb⟩
theorem both_scripts (x y : ByteArray) (hx : x.size ≤ 1048576) (hy : y.size ≤ 1048576) : ∃ (L : List Ed) (code : Int), L.length ≤ 2000 ∧ (∀ e ∈ L, e.put.length ≤ 2000000) ∧
    (∀ W, Calls Try.prog 9 #[.string x, .string y] W (ScrOut L code W)) ∧ (∀ W, Calls Try.prog 10 #[.string x, .string y] W (ScrOut L code W)) := by
  have ex := strOf_list x
  have ey := strOf_list y
  have lx : x.data.toList.length = x.size := by simp
  have ly : y.data.toList.length = y.size := by simp
  by_cases h : (linesB x.data.toList).length ≤ 1024 ∧ (linesB y.data.toList).length ≤ 1024
  · have hb : (linesB y.data.toList).flatten.length ≤ 1048576 := by rw [linesB_flat, ly]; exact hy
    have h5 := eds_len (linesB x.data.toList).length (linesB y.data.toList) (pairsB (linesB x.data.toList) (linesB y.data.toList) 0 0) 0 0 0
    rw [pairsB_len] at h5
    have hlc := lcs_le (linesB x.data.toList) (linesB y.data.toList)
    refine ⟨_, 0, ?_, fun e he => ?_, fun W => (script_any x y W hx hy h.1 h.2).mono fun e w' k => scr_out k hb h.2, fun W => ?_⟩
    · unfold scriptB; omega
    · have := (put_script _ _).2 e he; omega
    · have := refScript_any x.data.toList y.data.toList W (by omega) (by omega) h.1 h.2
      rw [ex, ey] at this
      exact this.mono fun e w' k => scr_out k hb h.2
  · have h' : 1024 < (linesB x.data.toList).length ∨ 1024 < (linesB y.data.toList).length := by omega
    refine ⟨[], 2400, by simp, by simp, fun W => (script_big x y W hx hy h').mono fun e w' k => scr_big k, fun W => ?_⟩
    have := refScript_big x.data.toList y.data.toList W (by omega) (by omega) h'
    rw [ex, ey] at this
    exact this.mono fun e w' k => scr_big k

set_option maxHeartbeats 4000000 in
theorem editsScripts_call (x y : ByteArray) (w : World) (hx : x.size ≤ 1048576) (hy : y.size ≤ 1048576) :
    Calls Try.prog 3 #[.string x, .string y] w fun e w' => e = .returned (.bool true) ∧ Below w.heap.size w w' := by
  obtain ⟨L, code, hl, hpl, hS, hR⟩ := both_scripts x y hx hy
  have HS := Lib.hid hS
  have HR := Lib.hid hR
  have HSM := Lib.hid (fun A1 A2 c1 c2 lo1 hi1 lo2 hi2 W h1 h2 => same_eds A1 A2 c1 c2 L L lo1 hi1 lo2 hi2 W h1 h2 (by omega) hpl)
  have hself : decide (L = L) = true := by simp
  rw [hself] at HSM
  clear hS hR hpl hself
  go_enter Try.func3, Try.ntmps3
  go_wp2_with fail
  refine (HS.out w).mono ?_
  rintro e w1 ⟨A1, c1, rfl, he1, hs1, hb1⟩
  have HE1 := Lib.hid he1
  have HSP1 := Lib.hid hs1
  have HB1 := Lib.hid hb1
  clear he1 hs1 hb1
  go_wp2_with fail
  refine (HS.out w1).mono ?_
  rintro e w2 ⟨A2, c2, rfl, he2, _, hb2⟩
  have HE2 := Lib.hid he2
  have HX2 := Lib.hid (HE1.out.below hb2 (Nat.le_refl _))
  have HSP2 := Lib.hid (HSP1.out.of (fun b _ hb => hb2.block b hb))
  have HB2 := Lib.hid (HB1.out.call hb2)
  have HZ2 := Lib.hid hb2.size
  clear he2 hb2 HE1 HSP1 HB1
  go_wp2_with fail
  refine (HR.out w2).mono ?_
  rintro e w3 ⟨A3, c3, rfl, he3, _, hb3⟩
  have HE3 := Lib.hid he3
  have HX3 := Lib.hid (HX2.out.below hb3 HZ2.out)
  have HY3 := Lib.hid (HE2.out.below hb3 (Nat.le_refl _))
  have HSP3 := Lib.hid (HSP2.out.of (fun b _ hb => hb3.block b (by have := HZ2.out; omega)))
  have HB3 := Lib.hid (HB2.out.call hb3)
  clear he3 hb3 HE2 HX2 HSP2 HB2 HS HR
  go_wp2_with fail
  refine (HSM.out A1 A3 c1 c3 _ _ _ _ w3 HX3.out HE3.out).mono ?_
  rintro e w4 ⟨rfl, n4, rfl⟩
  go_wp2_with (go_at_call 12; refine (num_any _ _).mono ?_; rintro e w9 ⟨rfl, rfl⟩)
  refine (spoilEdits_any A1 L.length c1 w.heap.size w1.heap.size 1048576 (w3.drewN n4) (HSP3.out.of (fun _ _ _ => rfl)) (by omega) (by omega)).mono ?_
  rintro e w5 ⟨rfl, hsp⟩
  have HY5 := Lib.hid ((HY3.out.drewN n4).of (w' := w5) fun b hb _ => hsp.high b hb)
  have HE5 := Lib.hid ((HE3.out.drewN n4).of (w' := w5) fun b hb _ => hsp.high b (by have := HZ2.out; omega))
  have HB5 := Lib.hid ((below_drewN HB3.out n4).trans hsp.below)
  clear hsp HX3 HE3 HY3 HSP3 HB3
  go_wp2_with fail
  refine (HSM.out A2 A3 c2 c3 _ _ _ _ w5 HY5.out HE5.out).mono ?_
  rintro e w6 ⟨rfl, n6, rfl⟩
  go_wp2_with (go_at_call 14; refine (awake_any _).mono ?_; rintro e wk ⟨rfl, hbk⟩; have HBK := Lib.hid hbk; clear hbk)
  go_ret
  exact ⟨rfl, (below_drewN HB5.out n6).call HBK.out⟩
end Go.Proofs.Ytakolehlaejhfaa
