/- Package regex: Check. -/
import Derived.Test.YtnbadnmmolagfaaDoorRegCatch
namespace Go.Proofs.YtnbadnmmolagfaaDoor
open Go.RowKit
set_option maxRecDepth 100000
set_option linter.unusedVariables false
set_option linter.unusedSimpArgs false

/-- What Check tells: the place, the error. -/
def checkN (l fl : Ln) : Int × Nat :=
  match flagsN fl 0 with
  | none => (0, 401)
  | some set =>
    if 4096 < l.length then (0, 405)
    else if l = [] then (0, 400)
    else
      match bodyL (set / 32 % 2 == 1) l with
      | .error f => ((l.length : Int) - (f.2 : Int), f.1)
      | .ok _ => (0, 0)
def checkV (r : Int × Nat) : Value := .tuple #[.int .i64 r.1, .int .i64 (r.2 : Int)]
theorem flagsN_lt : ∀ (fl : Ln) (s t : Nat), s < 128 → flagsN fl s = some t → t < 128
  | [], s, t, hs, h => by
    injection h with h
    omega
  | c :: r, s, t, hs, h => by
    unfold flagsN at h
    split at h
    · cases h
    · rename_i hk
      split at h
      · cases h
      · rename_i hb
        have hc := flagK_cases c
        have hk7 : (flagK c).toNat < 7 := by omega
        exact flagsN_lt r _ t (small_bit hs hk7 hb) h

theorem Blk.below' {B : Nat} {W W' : World} {g : Nat} {cs : List Value} {e : TypeId} (h : Blk W g cs e) (hb : Below B W W') (hg : g < B) : Blk W' g cs e := (hb.block g hg).trans h
set_option maxHeartbeats 16000000 in
theorem check_any (l fl : Ln) (w : World) (hE : Env w) (hl : l.length ≤ 140737488355328) (hfl : fl.length ≤ 140737488355328) :
    Calls Tryd.prog 10 #[.string (strOf l), .string (strOf fl)] w fun e w' => e = .returned (checkV (checkN l fl)) ∧ Below w.heap.size w w' := by
  have hmf : ∀ (fn : Fn) (first cap : Array Value) (w : World), (Instr.makeFunc fn first cap).run Tryd.prog w = .ok (.func fn first cap) w := fun _ _ _ _ => rfl
  have hmm := @run_makeMap Tryd.prog
  have hz := strOf_size l
  have hn := str_nil l
  have HE := Lib.hid hE
  obtain ⟨R, hR⟩ : ∃ R, R = checkN l fl := ⟨_, rfl⟩
  rw [← hR]
  unfold checkN at hR
  have HF := Lib.hid (fun w => flags_any fl w hfl)
  clear hE
  cases hfs : flagsN fl 0 with
  | none =>
    rw [hfs] at HF hR
    have HR : Hid (R = (0, 401)) := Lib.hid hR
    unfold flagV at HF
    clear hfs hR
    go_enter_defers Tryd.func10, Tryd.ntmps10
    go_wp2_with (go_at_call 14; refine (HF.out _).mono ?_; rintro e w1 ⟨rfl, rfl⟩)
    refine ⟨.tuple #[.int .i64 0, .int .i64 401], by simp [results, Tryd.results10, go_sem], ?_, ((Below.refl _ w).alloc (Nat.le_refl _) _).alloc (by simp) _⟩
    rw [HR.out]
    rfl
  | some st =>
    have hst := flagsN_lt fl 0 st (by decide) hfs
    rw [hfs] at HF hR
    unfold flagV at HF
    clear hfs
    by_cases h1 : 4096 < l.length
    · have HR : Hid (R = (0, 405)) := Lib.hid (by rw [hR]; simp only []; rw [if_pos h1])
      have h1' : (4096 : Int) < (l.length : Int) := by omega
      clear hR
      go_enter_defers Tryd.func10, Tryd.ntmps10
      go_wp2_with (go_at_call 14; refine (HF.out _).mono ?_; rintro e w1 ⟨rfl, rfl⟩)
      refine ⟨.tuple #[.int .i64 0, .int .i64 405], by simp [results, Tryd.results10, go_sem], ?_, ((Below.refl _ w).alloc (Nat.le_refl _) _).alloc (by simp) _⟩
      rw [HR.out]
      rfl
    · have h1' : ¬ (4096 : Int) < (l.length : Int) := by omega
      by_cases h2 : l = []
      · have HR : Hid (R = (0, 400)) := Lib.hid (by rw [hR]; simp only []; rw [if_neg h1, if_pos h2])
        have hn2 : (strOf l).toList.isEmpty = true := by rw [hn, h2]; rfl
        clear hR hn h2
        go_enter_defers Tryd.func10, Tryd.ntmps10
        go_wp2_with (go_at_call 14; refine (HF.out _).mono ?_; rintro e w1 ⟨rfl, rfl⟩)
        refine ⟨.tuple #[.int .i64 0, .int .i64 400], by simp [results, Tryd.results10, go_sem], ?_, ((Below.refl _ w).alloc (Nat.le_refl _) _).alloc (by simp) _⟩
        rw [HR.out]
        rfl
      · have hn2 : (strOf l).toList.isEmpty = false := by rw [hn]; cases l with
          | nil => exact absurd rfl h2
          | cons a l => rfl
        have HR : Hid (R = match bodyL (st / 32 % 2 == 1) l with
            | .error f => ((l.length : Int) - (f.2 : Int), f.1)
            | .ok _ => (0, 0)) := Lib.hid (by rw [hR]; simp only []; rw [if_neg h1, if_neg h2])
        have hl4 : l.length ≤ 4096 := by omega
        have H2 := Lib.hid h2
        have ha := and1 (st / 32) (by omega)
        have hcast : ((st / 32 : Nat) : Int) = (st : Int) / 32 := by omega
        rw [hcast] at ha
        have ht2 : (((st : Int) / 32 % 2) == 1) = (st / 32 % 2 == 1) := by
          by_cases hb : st / 32 % 2 = 1
          · have : (st / 32 % 2 == 1) = true := by simpa using hb
            rw [this]; simp; omega
          · have : (st / 32 % 2 == 1) = false := by simpa using hb
            rw [this]; simp; omega
        obtain ⟨u, hu⟩ : ∃ u, u = (st / 32 % 2 == 1) := ⟨_, rfl⟩
        rw [← hu] at HR ht2
        clear hR hn h1 h2 hu
        go_enter_defers Tryd.func10, Tryd.ntmps10
        go_wp2_with (first | (go_at_call 14; refine (HF.out _).mono ?_; rintro e w1 ⟨rfl, rfl⟩) | (go_at_call 16; refine (index_v flagChars 117 5 (by decide) _).mono ?_; rintro e w2 ⟨rfl, rfl⟩))
        obtain ⟨p, hp⟩ : ∃ p, p = w.heap.size := ⟨_, rfl⟩
        rw [← hp]
        obtain ⟨W, hW⟩ : ∃ W, (((w.alloc (.cells #[.int .i64 0] 3)).alloc (.cells #[.int .i64 0] 23)).alloc (.map #[] 0)).alloc (.cells #[.string (strOf l), .int .i64 0, .bool u, .int .i64 0, .map (some (p + 1 + 1)), .slice none 0 0, .slice none 0 0] 47) = W := ⟨_, rfl⟩
        rw [hW]
        have hfacts : (Blk W p [.int .i64 0] 3 ∧ Blk W (p + 1) [.int .i64 0] 23) ∧ Below w.heap.size w W ∧ W.heap.size = p + 4 ∧ Rs (p + 2) (p + 3) (p + 2) l u ⟨l, 0, [], [], []⟩ (.slice none 0 0) (.slice none 0 0) #[] 0 W := by
          rw [← hW]
          refine ⟨⟨(((Blk.new' _ _ hp).alloc _).alloc _).alloc _, ((Blk.new' _ _ (by simp [hp])).alloc _).alloc _⟩, ((((Below.refl _ w).alloc (Nat.le_refl _) _).alloc (by simp) _).alloc (by simp; omega) _).alloc (by simp; omega) _, by simp [hp], ?_⟩
          refine ⟨⟨0, by simp, rfl, Blk.new' _ _ (by simp [hp])⟩, World.ownsRow_nil _ _ _ _, World.ownsRow_nil _ _ _ _, ?_, rfl, by simp [Value.ownBlock], by omega, by omega⟩
          rw [Below.heap_alloc _ _ _ (by simp [hp])]
          have e : p + 2 = ((w.alloc (.cells #[.int .i64 0] 3)).alloc (.cells #[.int .i64 0] 23)).heap.size := by simp [hp]
          rw [e]
          exact heap_alloc_new _ _
        have hpz := hp
        have HPQ := Lib.hid hfacts.1
        have HWW := Lib.hid hfacts.2.1
        have HWS := Lib.hid hfacts.2.2.1
        have HRS := Lib.hid hfacts.2.2.2
        have hp2 : 2 < p := by have := HE.out.1.2; omega
        have HEW := Lib.hid (HE.out.below hfacts.2.1)
        have HP2 := Lib.hid hp2
        have HPZ := Lib.hid hp
        clear hW hfacts hp hpz hp2
        have HPT := Lib.hid (pattern_any (p + 2) (p + 3) (p + 2) l u hl4 (by have := HP2.out; omega) (l.length + 1) ⟨l, 0, [], [], []⟩ _ _ _ _ W HRS.out HEW.out (by have := HWS.out; omega) (Nat.lt_succ_self _) (by simpa [St.sum] using hl4))
        rcases hpt : patF u (l.length + 1) ⟨l, 0, [], [], []⟩ with f | s1
        · have HX := Lib.hid hpt
          rw [hpt] at HPT
          clear hpt
          refine HPT.out.mono ?_
          rintro e w3 ⟨hb3, rfl⟩
          have hbp := HPQ.out.1.below' (hb3) (by have := HPZ.out; omega)
          have hbq := HPQ.out.2.below' (hb3) (by have := HPZ.out; omega)
          refine leaves_cons (f := 15) (args := #[.pointer (some ⟨p, 0, none⟩), .pointer (some ⟨p + 1, 0, none⟩)]) (by simp) (by simp [go_sem]) ?_
          refine (catch_panicking p (p + 1) (f.1 : Int) ((l.length : Int) - (f.2 : Int)) _ _ [] _ hbp hbq (by omega) w.heap.size (by have := HPZ.out; omega) (by have := HPZ.out; omega)).mono ?_
          rintro e u' w9 ⟨rfl, rfl, hp9, hq9, hb9⟩
          have d0 := hp9.cell 0
          have d1 := hq9.cell 0
          refine ⟨.tuple #[.int .i64 ((l.length : Int) - (f.2 : Int)), .int .i64 (f.1 : Int)], by simp [results, Tryd.results10, go_sem, d0, d1], ?_, (HWW.out.trans ((hb3).mono (by have := HPZ.out; omega))).trans hb9⟩
          rw [HR.out, show bodyL u l = .error f from by unfold bodyL; rw [HX.out]; rfl]
          rfl
        · have HX := Lib.hid hpt
          have HKP := Lib.hid (pat_keeps u (l.length + 1) _ _ (by simp) hpt)
          rw [hpt] at HPT
          clear hpt
          refine HPT.out.mono ?_
          rintro e w3 ⟨hb3, rfl, vn3, vd3, es3, clock3, hr3⟩
          have HRS3 := Lib.hid hr3
          have HB3 := Lib.hid hb3
          obtain ⟨k, hk, hd, hbk⟩ := hr3.rd
          have c1 := hbk.cell 1
          have HK := Lib.hid hk
          clear hd hbk hb3 hr3
          by_cases hr : s1.r = []
          · have hkl : ¬ ((k : Int) < (l.length : Int)) := by rw [hr] at hk; simp at hk; omega
            have HBL : Hid (bodyL u l = settleF (digitsOf 20 s1.g []) s1.nm (s1.nu.length + s1.nd.length) s1.nu s1.nd) := Lib.hid (by unfold bodyL; rw [HX.out]; simp only [bind, Except.bind]; rw [if_neg (by simpa using hr)])
            clear hr hk
            go_wp2_with fail
            clear c1
            have HSE := Lib.hid (settle_any (p + 3) (p + 2) l u s1 vn3 vd3 es3 clock3 (p + 2) w3 HRS3.out hl4 (by have := HKP.out.2; simp [St.sum] at this ⊢; omega) (by have := HB3.out.size; have := HWS.out; omega))
            rcases hse : settleF (digitsOf 20 s1.g []) s1.nm (s1.nu.length + s1.nd.length) s1.nu s1.nd with f | z
            · have HXS := Lib.hid hse
              rw [hse] at HSE
              clear hse
              refine HSE.out.mono ?_
              rintro e w4 ⟨hb4, rfl⟩
              have hbp := HPQ.out.1.below' (HB3.out.trans hb4) (by have := HPZ.out; omega)
              have hbq := HPQ.out.2.below' (HB3.out.trans hb4) (by have := HPZ.out; omega)
              refine leaves_cons (f := 15) (args := #[.pointer (some ⟨p, 0, none⟩), .pointer (some ⟨p + 1, 0, none⟩)]) (by simp) (by simp [go_sem]) ?_
              refine (catch_panicking p (p + 1) (f.1 : Int) ((l.length : Int) - (f.2 : Int)) _ _ [] _ hbp hbq (by omega) w.heap.size (by have := HPZ.out; omega) (by have := HPZ.out; omega)).mono ?_
              rintro e u' w9 ⟨rfl, rfl, hp9, hq9, hb9⟩
              have d0 := hp9.cell 0
              have d1 := hq9.cell 0
              refine ⟨.tuple #[.int .i64 ((l.length : Int) - (f.2 : Int)), .int .i64 (f.1 : Int)], by simp [results, Tryd.results10, go_sem, d0, d1], ?_, (HWW.out.trans ((HB3.out.trans hb4).mono (by have := HPZ.out; omega))).trans hb9⟩
              rw [HR.out, HBL.out, HXS.out]
              rfl
            · have HXS := Lib.hid hse
              rw [hse] at HSE
              clear hse
              refine HSE.out.mono ?_
              rintro e w4 ⟨hb4, rfl⟩
              have hbp := HPQ.out.1.below' (HB3.out.trans hb4) (by omega)
              have hbq := HPQ.out.2.below' (HB3.out.trans hb4) (by omega)
              have HBQ := Lib.hid (And.intro hbp hbq)
              have HB4 := Lib.hid (HWW.out.trans ((HB3.out.trans hb4).mono (by have := HPZ.out; omega)))
              have d0 := hbp.cell 0
              have d1 := hbq.cell 0
              have f0 := hbp.frozen 0
              have f1 := hbq.frozen 0
              clear hbp hbq hb4
              go_wp2_with fail
              refine leaves_cons (f := 15) (args := #[.pointer (some ⟨p, 0, none⟩), .pointer (some ⟨p + 1, 0, none⟩)]) (by simp) (by simp [go_sem]) ?_
              refine (catch_idle ⟨p, 0, none⟩ ⟨p + 1, 0, none⟩ _).mono ?_
              rintro e u' w9 ⟨rfl, rfl, rfl⟩
              have x0 := ((HBQ.out.1.set 0 (.int .i64 0)).set_other (a := ⟨p + 1, 0, none⟩) (by simp) (.int .i64 0)).cell 0
              have x1 := ((HBQ.out.2.set_other (a := ⟨p, 0, none⟩) (by simp) (.int .i64 0)).set 0 (.int .i64 0)).cell 0
              refine ⟨.tuple #[.int .i64 0, .int .i64 0], by simp [results, Tryd.results10, go_sem, x0, x1], ?_, (HB4.out.setCell (p := ⟨p, 0, none⟩) (by have := HPZ.out; simp; omega) _).setCell (p := ⟨p + 1, 0, none⟩) (by have := HPZ.out; simp; omega) _⟩
              rw [HR.out, HBL.out, HXS.out]
              rfl
          · have hkl : ((k : Int) < (l.length : Int)) := by have := List.length_pos_iff.2 hr; omega
            have HBL : Hid (bodyL u l = .error (form s1.r)) := Lib.hid (by unfold bodyL; rw [HX.out]; simp only [bind, Except.bind]; rw [if_pos hr])
            clear hr hk
            go_wp2_with fail
            clear c1
            refine (stop_any (p + 3) l u _ s1.r _ HRS3.out.rd).mono ?_
            rintro e w4 ⟨rfl, rfl⟩
            obtain ⟨f, hf⟩ : ∃ f, f = form s1.r := ⟨_, rfl⟩
            rw [← hf] at HBL ⊢
            clear hf
            have hbp := HPQ.out.1.below' (HB3.out) (by have := HPZ.out; omega)
            have hbq := HPQ.out.2.below' (HB3.out) (by have := HPZ.out; omega)
            refine leaves_cons (f := 15) (args := #[.pointer (some ⟨p, 0, none⟩), .pointer (some ⟨p + 1, 0, none⟩)]) (by simp) (by simp [go_sem]) ?_
            refine (catch_panicking p (p + 1) (f.1 : Int) ((l.length : Int) - (f.2 : Int)) _ _ [] _ hbp hbq (by omega) w.heap.size (by have := HPZ.out; omega) (by have := HPZ.out; omega)).mono ?_
            rintro e u' w9 ⟨rfl, rfl, hp9, hq9, hb9⟩
            have d0 := hp9.cell 0
            have d1 := hq9.cell 0
            refine ⟨.tuple #[.int .i64 ((l.length : Int) - (f.2 : Int)), .int .i64 (f.1 : Int)], by simp [results, Tryd.results10, go_sem, d0, d1], ?_, (HWW.out.trans ((HB3.out).mono (by have := HPZ.out; omega))).trans hb9⟩
            rw [HR.out, HBL.out]
            rfl
end Go.Proofs.YtnbadnmmolagfaaDoor
