/- The walks of the laws' choices and literal: what they say of a document. -/
import Derived.Test.YthljgiimdcbfpaaDoorLPQuiet
namespace Go.Proofs.YthljgiimdcbfpaaDoor
open Go.RowKit
set_option maxRecDepth 100000
set_option linter.unusedVariables false
set_option linter.unusedSimpArgs false

mutual
def Doc.choices : Doc → Bool
  | .mk k _ ks _ _ _ => (k == 8 || k == 10 || k == 14) || choicesL ks
def choicesL : List Doc → Bool
  | [] => false
  | d :: ds => d.choices || choicesL ds
end
theorem Doc.choices_eq (d : Doc) : d.choices = ((d.kind == 8 || d.kind == 10 || d.kind == 14) || choicesL d.kids) := by cases d; rfl
theorem choicesL_any (ks : List Doc) : choicesL ks = ks.any Doc.choices := by
  induction ks with
  | nil => rfl
  | cons d ds ih => rw [choicesL, ih]; rfl
theorem choicesL_no {d : Doc} (h : ∀ x (hx : x < d.kids.length), (d.kids[x]).choices = false) : choicesL d.kids = false := by
  rw [choicesL_any, List.any_eq_false]
  intro x hx
  obtain ⟨j, hj, rfl⟩ := List.mem_iff_getElem.1 hx
  rw [h j hj]
  simp
theorem choicesB_bad (d : Doc) (x : Nat) (hx : x < d.kids.length) (h : (d.kids[x]).choices = true) : d.choices = true := by
  rw [Doc.choices_eq, Bool.or_eq_true]
  refine .inr ?_
  rw [choicesL_any, List.any_eq_true]
  exact ⟨_, List.getElem_mem hx, h⟩
def ChoIn (d : Doc) : Prop := ∀ (kv : Value) (w : World), KV w 0 w.heap.size d kv → d.bulk ≤ 4194304 →
    Calls Tryd.prog 18 #[docV d kv] w fun e w' => e = .returned (.bool d.choices) ∧ Below w.heap.size w w'
theorem choicesB_all (d : Doc) (hh : ¬ (d.kind = 8 ∨ d.kind = 10 ∨ d.kind = 14)) (h : ∀ x (hx : x < d.kids.length), (d.kids[x]).choices = false) : d.choices = false := by
  rw [Doc.choices_eq, choicesL_no h]
  simp
  omega
theorem choicesB_head (d : Doc) (hh : d.kind = 8 ∨ d.kind = 10 ∨ d.kind = 14) : d.choices = true := by
  rw [Doc.choices_eq]
  rcases hh with h | h | h <;> simp [h]
set_option maxHeartbeats 8000000 in
theorem choicesIn_any (d : Doc) : ChoIn d := by
  refine Doc.ind (P := ChoIn) (fun d ih => ?_) d
  intro kv w hk hb
  obtain ⟨a, cap, rfl⟩ := hk.slice
  have hcap := hk.cap
  have hkid := fun j hj => hk.kid (j := j) hj
  have hmem : ∀ j (hj : j < d.kids.length), ChoIn d.kids[j] ∧ (d.kids[j]).bulk ≤ 4194304 := fun j hj => ⟨ih _ (List.getElem_mem hj), by have := Doc.kid_bulk (List.getElem_mem hj); omega⟩
  have hlen : d.kids.length < 4194304 := by have := d.kids_len; omega
  have hbk := Blk.new w (docCells d (.slice a d.kids.length cap)) 24
  obtain ⟨len, hlen2⟩ : ∃ z, z = d.kids.length := ⟨_, rfl⟩
  simp only [← hlen2] at hlen hcap hbk
  obtain ⟨kk, hkk⟩ : ∃ z, z = d.kind := ⟨_, rfl⟩
  obtain ⟨ii, hii⟩ : ∃ z, z = d.id := ⟨_, rfl⟩
  have HAD := Lib.hid (choicesB_all d)
  have HBD := Lib.hid (choicesB_bad d)
  have HHD := Lib.hid (choicesB_head d)
  unfold docCells at hbk
  rw [← hkk] at HAD HHD hbk
  skip
  rw [← hii] at hbk
  have HKID := Lib.hid hkid
  have HMEM := Lib.hid hmem
  have HBK := Lib.hid hbk
  have HLEN := Lib.hid hlen2
  clear hk hkid hmem hbk ih
  rw [← hlen2]
  clear hlen2
  unfold docV
  rw [← hkk, ← hii]
  clear hkk hii
  by_cases h0 : kk = 8 ∨ kk = 10 ∨ kk = 14
  · rcases h0 with rfl | rfl | rfl
    · go_enter Tryd.func18, Tryd.ntmps18
      go_wp2_with fail
      go_ret
      exact ⟨by rw [HHD.out (by simp)]; rfl, (Below.refl _ w).alloc (Nat.le_refl _) _⟩
    · go_enter Tryd.func18, Tryd.ntmps18
      go_wp2_with fail
      go_ret
      exact ⟨by rw [HHD.out (by simp)]; rfl, (Below.refl _ w).alloc (Nat.le_refl _) _⟩
    · go_enter Tryd.func18, Tryd.ntmps18
      go_wp2_with fail
      go_ret
      exact ⟨by rw [HHD.out (by simp)]; rfl, (Below.refl _ w).alloc (Nat.le_refl _) _⟩
  have e1 : (kk == 8) = false := by simp; omega
  have e2 : (kk == 10) = false := by simp; omega
  have e3 : (kk == 14) = false := by simp; omega
  have H0 := Lib.hid h0
  clear h0
  go_enter Tryd.func18, Tryd.ntmps18
  go_wp2_with fail
  go_loopw [3] (fun i wr => ∃ j : Nat, j ≤ len ∧ i = .int .i64 (j : Int) ∧ (∀ x (hx : x < d.kids.length), x < j → (d.kids[x]).choices = false) ∧ Blk wr w.heap.size [.int .i64 kk, .string d.text, .slice a len cap, .bool d.brk, .int .i64 ii, .int .i64 d.width] 24 ∧ Below w.heap.size w wr) (fun i _ => len - (intOf i).toNat)
  case atStart =>
    exact ⟨0, Nat.zero_le _, rfl, fun x _ h => absurd h (Nat.not_lt_zero x), HBK.out, (Below.refl _ w).alloc (Nat.le_refl _) _⟩
  case round =>
    obtain ⟨j, hj, rfl, hall, hbk, hbw⟩ := hrel
    have c2 := hbk.cell 2
    simp only [List.getElem?_cons_zero, List.getElem?_cons_succ] at c2
    have HALL := Lib.hid hall
    have HB := Lib.hid hbk
    have HBW := Lib.hid hbw
    by_cases hlt : j < len
    · have hjm : (j : Int) < (len : Int) := by omega
      have hj2 : j < d.kids.length := by rw [← HLEN.out]; exact hlt
      obtain ⟨g, off, rfl, _, hg, kv2, h6, hk2⟩ := HKID.out j hj2
      obtain ⟨K, hK⟩ : ∃ K, K = d.kids[j]'hj2 := ⟨_, rfl⟩
      have h6' := h6.of (hbw.block _ hg)
      rw [← hK] at h6' hk2
      have g0 := h6'.kind
      have g1 := h6'.text
      have g2 := h6'.kids
      have g3 := h6'.brk
      have g4 := h6'.id
      have g5 := h6'.width
      have hkw : KV wr 0 wr.heap.size K kv2 := (hk2.below hbw (Nat.le_refl _)).wide (Nat.le_refl _) hbw.size
      have HC := Lib.hid ((HMEM.out j hj2).1 kv2 wr (hK ▸ hkw) (HMEM.out j hj2).2)
      rw [← hK] at HC
      have HKK := Lib.hid hK
      clear h6 h6' hk2 hK hall hbk hbw hkw
      go_wp2_with fail
      refine HC.out.mono ?_
      rintro e w2 ⟨rfl, hb2⟩
      have HB2 := Lib.hid (HBW.out.call hb2)
      have HBK2 := Lib.hid (HB.out.below hb2)
      clear hb2 c2 g0 g1 g2 g3 g4 g5
      cases hkd : K.choices
      case true =>
        have HKD := Lib.hid hkd
        clear hkd
        go_wp2_with fail
        go_ret
        exact ⟨by rw [HBD.out j hj2 (by rw [← HKK.out]; exact HKD.out)]; rfl, HB2.out⟩
      case false =>
        have HKD := Lib.hid hkd
        have hw2 : IntKind.i64.wrap ((j : Int) + 1) = (j : Int) + 1 := IntWalk.i64_in _ (by omega)
        clear hkd
        go_wp2_with fail
        go_roundw
        case rel =>
          refine ⟨j + 1, by omega, by go_num, fun x hx hxj => ?_, HBK2.out, HB2.out⟩
          rcases Nat.lt_or_ge x j with h | h
          · exact HALL.out x hx h
          · obtain rfl : x = j := by omega
            rw [← HKK.out]
            exact HKD.out
        case measure => simp only [intOf]; omega
    · have hjm : j = len := by omega
      subst hjm
      go_wp2_with fail
      go_ret
      exact ⟨by rw [HAD.out (H0.out) (fun x hx => HALL.out x hx (by have := HLEN.out; omega))]; rfl, HBW.out⟩
mutual
def Doc.literal : Doc → Bool
  | .mk k _ ks _ _ _ => (k == 6) || literalL ks
def literalL : List Doc → Bool
  | [] => false
  | d :: ds => d.literal || literalL ds
end
theorem Doc.literal_eq (d : Doc) : d.literal = ((d.kind == 6) || literalL d.kids) := by cases d; rfl
theorem literalL_any (ks : List Doc) : literalL ks = ks.any Doc.literal := by
  induction ks with
  | nil => rfl
  | cons d ds ih => rw [literalL, ih]; rfl
theorem literalL_no {d : Doc} (h : ∀ x (hx : x < d.kids.length), (d.kids[x]).literal = false) : literalL d.kids = false := by
  rw [literalL_any, List.any_eq_false]
  intro x hx
  obtain ⟨j, hj, rfl⟩ := List.mem_iff_getElem.1 hx
  rw [h j hj]
  simp
theorem literalB_bad (d : Doc) (x : Nat) (hx : x < d.kids.length) (h : (d.kids[x]).literal = true) : d.literal = true := by
  rw [Doc.literal_eq, Bool.or_eq_true]
  refine .inr ?_
  rw [literalL_any, List.any_eq_true]
  exact ⟨_, List.getElem_mem hx, h⟩
def LtrIn (d : Doc) : Prop := ∀ (kv : Value) (w : World), KV w 0 w.heap.size d kv → d.bulk ≤ 4194304 →
    Calls Tryd.prog 15 #[docV d kv] w fun e w' => e = .returned (.bool d.literal) ∧ Below w.heap.size w w'
theorem literalB_all (d : Doc) (hh : True) (h : ∀ x (hx : x < d.kids.length), (d.kids[x]).literal = false) : d.literal = (d.kind == 6) := by
  rw [Doc.literal_eq, literalL_no h]
  simp
set_option maxHeartbeats 8000000 in
theorem literalIn_any (d : Doc) : LtrIn d := by
  refine Doc.ind (P := LtrIn) (fun d ih => ?_) d
  intro kv w hk hb
  obtain ⟨a, cap, rfl⟩ := hk.slice
  have hcap := hk.cap
  have hkid := fun j hj => hk.kid (j := j) hj
  have hmem : ∀ j (hj : j < d.kids.length), LtrIn d.kids[j] ∧ (d.kids[j]).bulk ≤ 4194304 := fun j hj => ⟨ih _ (List.getElem_mem hj), by have := Doc.kid_bulk (List.getElem_mem hj); omega⟩
  have hlen : d.kids.length < 4194304 := by have := d.kids_len; omega
  have hbk := Blk.new w (docCells d (.slice a d.kids.length cap)) 24
  obtain ⟨len, hlen2⟩ : ∃ z, z = d.kids.length := ⟨_, rfl⟩
  simp only [← hlen2] at hlen hcap hbk
  obtain ⟨kk, hkk⟩ : ∃ z, z = d.kind := ⟨_, rfl⟩
  obtain ⟨ii, hii⟩ : ∃ z, z = d.id := ⟨_, rfl⟩
  have HAD := Lib.hid (literalB_all d)
  have HBD := Lib.hid (literalB_bad d)
  unfold docCells at hbk
  rw [← hkk] at HAD hbk
  skip
  rw [← hii] at hbk
  have HKID := Lib.hid hkid
  have HMEM := Lib.hid hmem
  have HBK := Lib.hid hbk
  have HLEN := Lib.hid hlen2
  clear hk hkid hmem hbk ih
  rw [← hlen2]
  clear hlen2
  unfold docV
  rw [← hkk, ← hii]
  clear hkk hii
  go_enter Tryd.func15, Tryd.ntmps15
  go_wp2_with fail
  go_loopw [3] (fun i wr => ∃ j : Nat, j ≤ len ∧ i = .int .i64 (j : Int) ∧ (∀ x (hx : x < d.kids.length), x < j → (d.kids[x]).literal = false) ∧ Blk wr w.heap.size [.int .i64 kk, .string d.text, .slice a len cap, .bool d.brk, .int .i64 ii, .int .i64 d.width] 24 ∧ Below w.heap.size w wr) (fun i _ => len - (intOf i).toNat)
  case atStart =>
    exact ⟨0, Nat.zero_le _, rfl, fun x _ h => absurd h (Nat.not_lt_zero x), HBK.out, (Below.refl _ w).alloc (Nat.le_refl _) _⟩
  case round =>
    obtain ⟨j, hj, rfl, hall, hbk, hbw⟩ := hrel
    have c2 := hbk.cell 2
    have c0 := hbk.cell 0
    simp only [List.getElem?_cons_zero, List.getElem?_cons_succ] at c2 c0
    have HALL := Lib.hid hall
    have HB := Lib.hid hbk
    have HBW := Lib.hid hbw
    by_cases hlt : j < len
    · have hjm : (j : Int) < (len : Int) := by omega
      have hj2 : j < d.kids.length := by rw [← HLEN.out]; exact hlt
      obtain ⟨g, off, rfl, _, hg, kv2, h6, hk2⟩ := HKID.out j hj2
      obtain ⟨K, hK⟩ : ∃ K, K = d.kids[j]'hj2 := ⟨_, rfl⟩
      have h6' := h6.of (hbw.block _ hg)
      rw [← hK] at h6' hk2
      have g0 := h6'.kind
      have g1 := h6'.text
      have g2 := h6'.kids
      have g3 := h6'.brk
      have g4 := h6'.id
      have g5 := h6'.width
      have hkw : KV wr 0 wr.heap.size K kv2 := (hk2.below hbw (Nat.le_refl _)).wide (Nat.le_refl _) hbw.size
      have HC := Lib.hid ((HMEM.out j hj2).1 kv2 wr (hK ▸ hkw) (HMEM.out j hj2).2)
      rw [← hK] at HC
      have HKK := Lib.hid hK
      clear h6 h6' hk2 hK hall hbk hbw hkw
      go_wp2_with fail
      refine HC.out.mono ?_
      rintro e w2 ⟨rfl, hb2⟩
      have HB2 := Lib.hid (HBW.out.call hb2)
      have HBK2 := Lib.hid (HB.out.below hb2)
      clear hb2 c2 c0 g0 g1 g2 g3 g4 g5
      cases hkd : K.literal
      case true =>
        have HKD := Lib.hid hkd
        clear hkd
        go_wp2_with fail
        go_ret
        exact ⟨by rw [HBD.out j hj2 (by rw [← HKK.out]; exact HKD.out)]; rfl, HB2.out⟩
      case false =>
        have HKD := Lib.hid hkd
        have hw2 : IntKind.i64.wrap ((j : Int) + 1) = (j : Int) + 1 := IntWalk.i64_in _ (by omega)
        clear hkd
        go_wp2_with fail
        go_roundw
        case rel =>
          refine ⟨j + 1, by omega, by go_num, fun x hx hxj => ?_, HBK2.out, HB2.out⟩
          rcases Nat.lt_or_ge x j with h | h
          · exact HALL.out x hx h
          · obtain rfl : x = j := by omega
            rw [← HKK.out]
            exact HKD.out
        case measure => simp only [intOf]; omega
    · have hjm : j = len := by omega
      subst hjm
      go_wp2_with fail
      go_ret
      exact ⟨by rw [HAD.out (by simp) (fun x hx => HALL.out x hx (by have := HLEN.out; omega))]; rfl, HBW.out⟩
end Go.Proofs.YthljgiimdcbfpaaDoor
