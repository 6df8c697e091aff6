/- The walks of the laws' plain and quiet: what they say of a document. -/
import Derived.Test.YthljgiimdcbfpaaDoorLPFlat
import Derived.Test.YthljgiimdcbfpaaDoorMDoc
namespace Go.Proofs.YthljgiimdcbfpaaDoor
open Go.RowKit
set_option maxRecDepth 100000
set_option linter.unusedVariables false
set_option linter.unusedSimpArgs false

mutual
/-- Texts, concats, indents and aligns alone. -/
def Doc.plain : Doc → Bool
  | .mk k _ ks _ _ _ => (k == 1 || k == 2 || k == 11 || k == 13) && plainL ks
def plainL : List Doc → Bool
  | [] => true
  | d :: ds => d.plain && plainL ds
end
theorem Doc.plain_eq (d : Doc) : d.plain = ((d.kind == 1 || d.kind == 2 || d.kind == 11 || d.kind == 13) && plainL d.kids) := by cases d; rfl
theorem plainL_mem {ks : List Doc} (h : plainL ks = true) : ∀ x ∈ ks, x.plain = true := by
  induction ks with
  | nil => intro x hx; cases hx
  | cons a l ih =>
    simp only [plainL, Bool.and_eq_true] at h
    intro x hx
    rcases List.mem_cons.1 hx with rfl | hx
    · exact h.1
    · exact ih h.2 x hx
theorem plainL_of {ks : List Doc} (h : ∀ x ∈ ks, x.plain = true) : plainL ks = true := by
  induction ks with
  | nil => rfl
  | cons a l ih =>
    simp only [plainL, Bool.and_eq_true]
    exact ⟨h a (by simp), ih fun x hx => h x (by simp [hx])⟩
theorem plainB_all (d : Doc) (hh : (d.kind = 1 ∨ d.kind = 2 ∨ d.kind = 11 ∨ d.kind = 13)) (h : ∀ x (hx : x < d.kids.length), (d.kids[x]).plain = true) : d.plain = true := by
  rw [Doc.plain_eq, Bool.and_eq_true]
  refine ⟨?_, plainL_of fun x hx => ?_⟩
  · simp
    omega
  · obtain ⟨j, hj, rfl⟩ := List.mem_iff_getElem.1 hx
    exact h j hj
theorem plainB_bad (d : Doc) (x : Nat) (hx : x < d.kids.length) (h : (d.kids[x]).plain = false) : d.plain = false := by
  cases hd : d.plain with
  | false => rfl
  | true =>
    rw [Doc.plain_eq, Bool.and_eq_true] at hd
    have := plainL_mem hd.2 _ (List.getElem_mem hx)
    rw [h] at this
    cases this
theorem plainB_head (d : Doc) (hh : ¬ (d.kind = 1 ∨ d.kind = 2 ∨ d.kind = 11 ∨ d.kind = 13)) : d.plain = false := by
  cases hd : d.plain with
  | false => rfl
  | true =>
    rw [Doc.plain_eq, Bool.and_eq_true] at hd
    refine absurd ?_ hh
    have := hd.1
    simp at this
    omega
def PlnIn (d : Doc) : Prop := ∀ (kv : Value) (w : World), KV w 0 w.heap.size d kv → d.bulk ≤ 4194304 →
    Calls Tryd.prog 29 #[docV d kv] w fun e w' => e = .returned (.bool d.plain) ∧ Below w.heap.size w w'
set_option maxHeartbeats 8000000 in
theorem plainIn_any (d : Doc) : PlnIn d := by
  refine Doc.ind (P := PlnIn) (fun d ih => ?_) d
  intro kv w hk hb
  obtain ⟨a, cap, rfl⟩ := hk.slice
  have hcap := hk.cap
  have hkid := fun j hj => hk.kid (j := j) hj
  have hmem : ∀ j (hj : j < d.kids.length), PlnIn d.kids[j] ∧ (d.kids[j]).bulk ≤ 4194304 := fun j hj => ⟨ih _ (List.getElem_mem hj), by have := Doc.kid_bulk (List.getElem_mem hj); omega⟩
  have hlen : d.kids.length < 4194304 := by have := d.kids_len; omega
  have hbk := Blk.new w (docCells d (.slice a d.kids.length cap)) 24
  obtain ⟨len, hlen2⟩ : ∃ z, z = d.kids.length := ⟨_, rfl⟩
  simp only [← hlen2] at hlen hcap hbk
  obtain ⟨kk, hkk⟩ : ∃ z, z = d.kind := ⟨_, rfl⟩
  obtain ⟨ii, hii⟩ : ∃ z, z = d.id := ⟨_, rfl⟩
  have HAD := Lib.hid (plainB_all d)
  have HBD := Lib.hid (plainB_bad d)
  have HHD := Lib.hid (plainB_head d)
  unfold docCells at hbk
  rw [← hkk] at HAD HHD hbk
  skip
  rw [← hii] at hbk
  have HKID := Lib.hid hkid
  have HMEM := Lib.hid hmem
  have HBK := Lib.hid hbk
  have HLEN := Lib.hid hlen2
  clear hk hkid hmem hbk ih
  rw [← hlen2]
  clear hlen2
  unfold docV
  rw [← hkk, ← hii]
  clear hkk hii
  by_cases h0 : kk = 1 ∨ kk = 2 ∨ kk = 11 ∨ kk = 13
  · rcases h0 with rfl | rfl | rfl | rfl
    · go_enter Tryd.func29, Tryd.ntmps29
      go_wp2_with fail
      go_loopw [3] (fun i wr => ∃ j : Nat, j ≤ len ∧ i = .int .i64 (j : Int) ∧ (∀ x (hx : x < d.kids.length), x < j → (d.kids[x]).plain = true) ∧ Blk wr w.heap.size [.int .i64 1, .string d.text, .slice a len cap, .bool d.brk, .int .i64 ii, .int .i64 d.width] 24 ∧ Below w.heap.size w wr) (fun i _ => len - (intOf i).toNat)
      case atStart =>
        exact ⟨0, Nat.zero_le _, rfl, fun x _ h => absurd h (Nat.not_lt_zero x), HBK.out, (Below.refl _ w).alloc (Nat.le_refl _) _⟩
      case round =>
        obtain ⟨j, hj, rfl, hall, hbk, hbw⟩ := hrel
        have c2 := hbk.cell 2
        simp only [List.getElem?_cons_zero, List.getElem?_cons_succ] at c2
        have HALL := Lib.hid hall
        have HB := Lib.hid hbk
        have HBW := Lib.hid hbw
        by_cases hlt : j < len
        · have hjm : (j : Int) < (len : Int) := by omega
          have hj2 : j < d.kids.length := by rw [← HLEN.out]; exact hlt
          obtain ⟨g, off, rfl, _, hg, kv2, h6, hk2⟩ := HKID.out j hj2
          obtain ⟨K, hK⟩ : ∃ K, K = d.kids[j]'hj2 := ⟨_, rfl⟩
          have h6' := h6.of (hbw.block _ hg)
          rw [← hK] at h6' hk2
          have g0 := h6'.kind
          have g1 := h6'.text
          have g2 := h6'.kids
          have g3 := h6'.brk
          have g4 := h6'.id
          have g5 := h6'.width
          have hkw : KV wr 0 wr.heap.size K kv2 := (hk2.below hbw (Nat.le_refl _)).wide (Nat.le_refl _) hbw.size
          have HC := Lib.hid ((HMEM.out j hj2).1 kv2 wr (hK ▸ hkw) (HMEM.out j hj2).2)
          rw [← hK] at HC
          have HKK := Lib.hid hK
          clear h6 h6' hk2 hK hall hbk hbw hkw
          go_wp2_with fail
          refine HC.out.mono ?_
          rintro e w2 ⟨rfl, hb2⟩
          have HB2 := Lib.hid (HBW.out.call hb2)
          have HBK2 := Lib.hid (HB.out.below hb2)
          clear hb2 c2 g0 g1 g2 g3 g4 g5
          cases hkd : K.plain
          case true =>
            have HKD := Lib.hid hkd
            have hw2 : IntKind.i64.wrap ((j : Int) + 1) = (j : Int) + 1 := IntWalk.i64_in _ (by omega)
            clear hkd
            go_wp2_with fail
            go_roundw
            case rel =>
              refine ⟨j + 1, by omega, by go_num, fun x hx hxj => ?_, HBK2.out, HB2.out⟩
              rcases Nat.lt_or_ge x j with h | h
              · exact HALL.out x hx h
              · obtain rfl : x = j := by omega
                rw [← HKK.out]
                exact HKD.out
            case measure => simp only [intOf]; omega
          case false =>
            have HKD := Lib.hid hkd
            clear hkd
            go_wp2_with fail
            go_ret
            exact ⟨by rw [HBD.out j hj2 (by rw [← HKK.out]; exact HKD.out)]; rfl, HB2.out⟩
        · have hjm : j = len := by omega
          subst hjm
          go_wp2_with fail
          go_ret
          exact ⟨by rw [HAD.out (by simp) (fun x hx => HALL.out x hx (by have := HLEN.out; omega))]; rfl, HBW.out⟩
    · go_enter Tryd.func29, Tryd.ntmps29
      go_wp2_with fail
      go_loopw [3] (fun i wr => ∃ j : Nat, j ≤ len ∧ i = .int .i64 (j : Int) ∧ (∀ x (hx : x < d.kids.length), x < j → (d.kids[x]).plain = true) ∧ Blk wr w.heap.size [.int .i64 2, .string d.text, .slice a len cap, .bool d.brk, .int .i64 ii, .int .i64 d.width] 24 ∧ Below w.heap.size w wr) (fun i _ => len - (intOf i).toNat)
      case atStart =>
        exact ⟨0, Nat.zero_le _, rfl, fun x _ h => absurd h (Nat.not_lt_zero x), HBK.out, (Below.refl _ w).alloc (Nat.le_refl _) _⟩
      case round =>
        obtain ⟨j, hj, rfl, hall, hbk, hbw⟩ := hrel
        have c2 := hbk.cell 2
        simp only [List.getElem?_cons_zero, List.getElem?_cons_succ] at c2
        have HALL := Lib.hid hall
        have HB := Lib.hid hbk
        have HBW := Lib.hid hbw
        by_cases hlt : j < len
        · have hjm : (j : Int) < (len : Int) := by omega
          have hj2 : j < d.kids.length := by rw [← HLEN.out]; exact hlt
          obtain ⟨g, off, rfl, _, hg, kv2, h6, hk2⟩ := HKID.out j hj2
          obtain ⟨K, hK⟩ : ∃ K, K = d.kids[j]'hj2 := ⟨_, rfl⟩
          have h6' := h6.of (hbw.block _ hg)
          rw [← hK] at h6' hk2
          have g0 := h6'.kind
          have g1 := h6'.text
          have g2 := h6'.kids
          have g3 := h6'.brk
          have g4 := h6'.id
          have g5 := h6'.width
          have hkw : KV wr 0 wr.heap.size K kv2 := (hk2.below hbw (Nat.le_refl _)).wide (Nat.le_refl _) hbw.size
          have HC := Lib.hid ((HMEM.out j hj2).1 kv2 wr (hK ▸ hkw) (HMEM.out j hj2).2)
          rw [← hK] at HC
          have HKK := Lib.hid hK
          clear h6 h6' hk2 hK hall hbk hbw hkw
          go_wp2_with fail
          refine HC.out.mono ?_
          rintro e w2 ⟨rfl, hb2⟩
          have HB2 := Lib.hid (HBW.out.call hb2)
          have HBK2 := Lib.hid (HB.out.below hb2)
          clear hb2 c2 g0 g1 g2 g3 g4 g5
          cases hkd : K.plain
          case true =>
            have HKD := Lib.hid hkd
            have hw2 : IntKind.i64.wrap ((j : Int) + 1) = (j : Int) + 1 := IntWalk.i64_in _ (by omega)
            clear hkd
            go_wp2_with fail
            go_roundw
            case rel =>
              refine ⟨j + 1, by omega, by go_num, fun x hx hxj => ?_, HBK2.out, HB2.out⟩
              rcases Nat.lt_or_ge x j with h | h
              · exact HALL.out x hx h
              · obtain rfl : x = j := by omega
                rw [← HKK.out]
                exact HKD.out
            case measure => simp only [intOf]; omega
          case false =>
            have HKD := Lib.hid hkd
            clear hkd
            go_wp2_with fail
            go_ret
            exact ⟨by rw [HBD.out j hj2 (by rw [← HKK.out]; exact HKD.out)]; rfl, HB2.out⟩
        · have hjm : j = len := by omega
          subst hjm
          go_wp2_with fail
          go_ret
          exact ⟨by rw [HAD.out (by simp) (fun x hx => HALL.out x hx (by have := HLEN.out; omega))]; rfl, HBW.out⟩
    · go_enter Tryd.func29, Tryd.ntmps29
      go_wp2_with fail
      go_loopw [3] (fun i wr => ∃ j : Nat, j ≤ len ∧ i = .int .i64 (j : Int) ∧ (∀ x (hx : x < d.kids.length), x < j → (d.kids[x]).plain = true) ∧ Blk wr w.heap.size [.int .i64 11, .string d.text, .slice a len cap, .bool d.brk, .int .i64 ii, .int .i64 d.width] 24 ∧ Below w.heap.size w wr) (fun i _ => len - (intOf i).toNat)
      case atStart =>
        exact ⟨0, Nat.zero_le _, rfl, fun x _ h => absurd h (Nat.not_lt_zero x), HBK.out, (Below.refl _ w).alloc (Nat.le_refl _) _⟩
      case round =>
        obtain ⟨j, hj, rfl, hall, hbk, hbw⟩ := hrel
        have c2 := hbk.cell 2
        simp only [List.getElem?_cons_zero, List.getElem?_cons_succ] at c2
        have HALL := Lib.hid hall
        have HB := Lib.hid hbk
        have HBW := Lib.hid hbw
        by_cases hlt : j < len
        · have hjm : (j : Int) < (len : Int) := by omega
          have hj2 : j < d.kids.length := by rw [← HLEN.out]; exact hlt
          obtain ⟨g, off, rfl, _, hg, kv2, h6, hk2⟩ := HKID.out j hj2
          obtain ⟨K, hK⟩ : ∃ K, K = d.kids[j]'hj2 := ⟨_, rfl⟩
          have h6' := h6.of (hbw.block _ hg)
          rw [← hK] at h6' hk2
          have g0 := h6'.kind
          have g1 := h6'.text
          have g2 := h6'.kids
          have g3 := h6'.brk
          have g4 := h6'.id
          have g5 := h6'.width
          have hkw : KV wr 0 wr.heap.size K kv2 := (hk2.below hbw (Nat.le_refl _)).wide (Nat.le_refl _) hbw.size
          have HC := Lib.hid ((HMEM.out j hj2).1 kv2 wr (hK ▸ hkw) (HMEM.out j hj2).2)
          rw [← hK] at HC
          have HKK := Lib.hid hK
          clear h6 h6' hk2 hK hall hbk hbw hkw
          go_wp2_with fail
          refine HC.out.mono ?_
          rintro e w2 ⟨rfl, hb2⟩
          have HB2 := Lib.hid (HBW.out.call hb2)
          have HBK2 := Lib.hid (HB.out.below hb2)
          clear hb2 c2 g0 g1 g2 g3 g4 g5
          cases hkd : K.plain
          case true =>
            have HKD := Lib.hid hkd
            have hw2 : IntKind.i64.wrap ((j : Int) + 1) = (j : Int) + 1 := IntWalk.i64_in _ (by omega)
            clear hkd
            go_wp2_with fail
            go_roundw
            case rel =>
              refine ⟨j + 1, by omega, by go_num, fun x hx hxj => ?_, HBK2.out, HB2.out⟩
              rcases Nat.lt_or_ge x j with h | h
              · exact HALL.out x hx h
              · obtain rfl : x = j := by omega
                rw [← HKK.out]
                exact HKD.out
            case measure => simp only [intOf]; omega
          case false =>
            have HKD := Lib.hid hkd
            clear hkd
            go_wp2_with fail
            go_ret
            exact ⟨by rw [HBD.out j hj2 (by rw [← HKK.out]; exact HKD.out)]; rfl, HB2.out⟩
        · have hjm : j = len := by omega
          subst hjm
          go_wp2_with fail
          go_ret
          exact ⟨by rw [HAD.out (by simp) (fun x hx => HALL.out x hx (by have := HLEN.out; omega))]; rfl, HBW.out⟩
    · go_enter Tryd.func29, Tryd.ntmps29
      go_wp2_with fail
      go_loopw [3] (fun i wr => ∃ j : Nat, j ≤ len ∧ i = .int .i64 (j : Int) ∧ (∀ x (hx : x < d.kids.length), x < j → (d.kids[x]).plain = true) ∧ Blk wr w.heap.size [.int .i64 13, .string d.text, .slice a len cap, .bool d.brk, .int .i64 ii, .int .i64 d.width] 24 ∧ Below w.heap.size w wr) (fun i _ => len - (intOf i).toNat)
      case atStart =>
        exact ⟨0, Nat.zero_le _, rfl, fun x _ h => absurd h (Nat.not_lt_zero x), HBK.out, (Below.refl _ w).alloc (Nat.le_refl _) _⟩
      case round =>
        obtain ⟨j, hj, rfl, hall, hbk, hbw⟩ := hrel
        have c2 := hbk.cell 2
        simp only [List.getElem?_cons_zero, List.getElem?_cons_succ] at c2
        have HALL := Lib.hid hall
        have HB := Lib.hid hbk
        have HBW := Lib.hid hbw
        by_cases hlt : j < len
        · have hjm : (j : Int) < (len : Int) := by omega
          have hj2 : j < d.kids.length := by rw [← HLEN.out]; exact hlt
          obtain ⟨g, off, rfl, _, hg, kv2, h6, hk2⟩ := HKID.out j hj2
          obtain ⟨K, hK⟩ : ∃ K, K = d.kids[j]'hj2 := ⟨_, rfl⟩
          have h6' := h6.of (hbw.block _ hg)
          rw [← hK] at h6' hk2
          have g0 := h6'.kind
          have g1 := h6'.text
          have g2 := h6'.kids
          have g3 := h6'.brk
          have g4 := h6'.id
          have g5 := h6'.width
          have hkw : KV wr 0 wr.heap.size K kv2 := (hk2.below hbw (Nat.le_refl _)).wide (Nat.le_refl _) hbw.size
          have HC := Lib.hid ((HMEM.out j hj2).1 kv2 wr (hK ▸ hkw) (HMEM.out j hj2).2)
          rw [← hK] at HC
          have HKK := Lib.hid hK
          clear h6 h6' hk2 hK hall hbk hbw hkw
          go_wp2_with fail
          refine HC.out.mono ?_
          rintro e w2 ⟨rfl, hb2⟩
          have HB2 := Lib.hid (HBW.out.call hb2)
          have HBK2 := Lib.hid (HB.out.below hb2)
          clear hb2 c2 g0 g1 g2 g3 g4 g5
          cases hkd : K.plain
          case true =>
            have HKD := Lib.hid hkd
            have hw2 : IntKind.i64.wrap ((j : Int) + 1) = (j : Int) + 1 := IntWalk.i64_in _ (by omega)
            clear hkd
            go_wp2_with fail
            go_roundw
            case rel =>
              refine ⟨j + 1, by omega, by go_num, fun x hx hxj => ?_, HBK2.out, HB2.out⟩
              rcases Nat.lt_or_ge x j with h | h
              · exact HALL.out x hx h
              · obtain rfl : x = j := by omega
                rw [← HKK.out]
                exact HKD.out
            case measure => simp only [intOf]; omega
          case false =>
            have HKD := Lib.hid hkd
            clear hkd
            go_wp2_with fail
            go_ret
            exact ⟨by rw [HBD.out j hj2 (by rw [← HKK.out]; exact HKD.out)]; rfl, HB2.out⟩
        · have hjm : j = len := by omega
          subst hjm
          go_wp2_with fail
          go_ret
          exact ⟨by rw [HAD.out (by simp) (fun x hx => HALL.out x hx (by have := HLEN.out; omega))]; rfl, HBW.out⟩
  · have e1 : (kk == 1) = false := by simp; omega
    have e2 : (kk == 2) = false := by simp; omega
    have e3 : (kk == 11) = false := by simp; omega
    have e4 : (kk == 13) = false := by simp; omega
    have f1 : (kk != 1) = true := by simp; omega
    have f2 : (kk != 2) = true := by simp; omega
    have f3 : (kk != 11) = true := by simp; omega
    have f4 : (kk != 13) = true := by simp; omega
    have H0 := Lib.hid h0
    clear h0
    go_enter Tryd.func29, Tryd.ntmps29
    go_wp2_with fail
    go_ret
    exact ⟨by rw [HHD.out (H0.out)]; rfl, (Below.refl _ w).alloc (Nat.le_refl _) _⟩
theorem quietB_all (d : Doc) (hh : (d.kind ≠ 14 ∧ d.kind ≠ 15 ∧ d.kind ≠ 12 ∧ (d.kind ≠ 10 ∨ d.id ≤ 0))) (h : ∀ x (hx : x < d.kids.length), (d.kids[x]).quiet = true) : d.quiet = true := by
  rw [Doc.quiet_eq, Bool.and_eq_true]
  refine ⟨?_, quietL_of fun x hx => ?_⟩
  · simp
    omega
  · obtain ⟨j, hj, rfl⟩ := List.mem_iff_getElem.1 hx
    exact h j hj
theorem quietB_bad (d : Doc) (x : Nat) (hx : x < d.kids.length) (h : (d.kids[x]).quiet = false) : d.quiet = false := by
  cases hd : d.quiet with
  | false => rfl
  | true =>
    rw [Doc.quiet_eq, Bool.and_eq_true] at hd
    have := quietL_mem hd.2 _ (List.getElem_mem hx)
    rw [h] at this
    cases this
theorem quietB_head (d : Doc) (hh : ¬ (d.kind ≠ 14 ∧ d.kind ≠ 15 ∧ d.kind ≠ 12 ∧ (d.kind ≠ 10 ∨ d.id ≤ 0))) : d.quiet = false := by
  cases hd : d.quiet with
  | false => rfl
  | true =>
    rw [Doc.quiet_eq, Bool.and_eq_true] at hd
    refine absurd ?_ hh
    have := hd.1
    simp at this
    omega
def QuiIn (d : Doc) : Prop := ∀ (kv : Value) (w : World), KV w 0 w.heap.size d kv → d.bulk ≤ 4194304 →
    Calls Tryd.prog 31 #[docV d kv] w fun e w' => e = .returned (.bool d.quiet) ∧ Below w.heap.size w w'
set_option maxHeartbeats 8000000 in
theorem quietIn_any (d : Doc) : QuiIn d := by
  refine Doc.ind (P := QuiIn) (fun d ih => ?_) d
  intro kv w hk hb
  obtain ⟨a, cap, rfl⟩ := hk.slice
  have hcap := hk.cap
  have hkid := fun j hj => hk.kid (j := j) hj
  have hmem : ∀ j (hj : j < d.kids.length), QuiIn d.kids[j] ∧ (d.kids[j]).bulk ≤ 4194304 := fun j hj => ⟨ih _ (List.getElem_mem hj), by have := Doc.kid_bulk (List.getElem_mem hj); omega⟩
  have hlen : d.kids.length < 4194304 := by have := d.kids_len; omega
  have hbk := Blk.new w (docCells d (.slice a d.kids.length cap)) 24
  obtain ⟨len, hlen2⟩ : ∃ z, z = d.kids.length := ⟨_, rfl⟩
  simp only [← hlen2] at hlen hcap hbk
  obtain ⟨kk, hkk⟩ : ∃ z, z = d.kind := ⟨_, rfl⟩
  obtain ⟨ii, hii⟩ : ∃ z, z = d.id := ⟨_, rfl⟩
  have HAD := Lib.hid (quietB_all d)
  have HBD := Lib.hid (quietB_bad d)
  have HHD := Lib.hid (quietB_head d)
  unfold docCells at hbk
  rw [← hkk] at HAD HHD hbk
  rw [← hii] at HAD HHD
  rw [← hii] at hbk
  have HKID := Lib.hid hkid
  have HMEM := Lib.hid hmem
  have HBK := Lib.hid hbk
  have HLEN := Lib.hid hlen2
  clear hk hkid hmem hbk ih
  rw [← hlen2]
  clear hlen2
  unfold docV
  rw [← hkk, ← hii]
  clear hkk hii
  by_cases h0 : kk = 14 ∨ kk = 15 ∨ kk = 12
  · rcases h0 with rfl | rfl | rfl
    · go_enter Tryd.func31, Tryd.ntmps31
      go_wp2_with fail
      go_ret
      exact ⟨by rw [HHD.out (by intro h; omega)]; rfl, (Below.refl _ w).alloc (Nat.le_refl _) _⟩
    · go_enter Tryd.func31, Tryd.ntmps31
      go_wp2_with fail
      go_ret
      exact ⟨by rw [HHD.out (by intro h; omega)]; rfl, (Below.refl _ w).alloc (Nat.le_refl _) _⟩
    · go_enter Tryd.func31, Tryd.ntmps31
      go_wp2_with fail
      go_ret
      exact ⟨by rw [HHD.out (by intro h; omega)]; rfl, (Below.refl _ w).alloc (Nat.le_refl _) _⟩
  have e1 : (kk == 14) = false := by simp; omega
  have e2 : (kk == 15) = false := by simp; omega
  have e3 : (kk == 12) = false := by simp; omega
  have H0 := Lib.hid h0
  clear h0
  by_cases h1 : kk = 10
  · subst h1
    clear e1 e2 e3
    by_cases h2 : 0 < ii
    · have H2 := Lib.hid h2
      go_enter Tryd.func31, Tryd.ntmps31
      go_wp2_with fail
      go_ret
      exact ⟨by rw [HHD.out (by intro h; have := H2.out; omega)]; rfl, (Below.refl _ w).alloc (Nat.le_refl _) _⟩
    · have H2 := Lib.hid h2
      go_enter Tryd.func31, Tryd.ntmps31
      go_wp2_with fail
      go_loopw [3] (fun i wr => ∃ j : Nat, j ≤ len ∧ i = .int .i64 (j : Int) ∧ (∀ x (hx : x < d.kids.length), x < j → (d.kids[x]).quiet = true) ∧ Blk wr w.heap.size [.int .i64 10, .string d.text, .slice a len cap, .bool d.brk, .int .i64 ii, .int .i64 d.width] 24 ∧ Below w.heap.size w wr) (fun i _ => len - (intOf i).toNat)
      case atStart =>
        exact ⟨0, Nat.zero_le _, rfl, fun x _ h => absurd h (Nat.not_lt_zero x), HBK.out, (Below.refl _ w).alloc (Nat.le_refl _) _⟩
      case round =>
        obtain ⟨j, hj, rfl, hall, hbk, hbw⟩ := hrel
        have c2 := hbk.cell 2
        simp only [List.getElem?_cons_zero, List.getElem?_cons_succ] at c2
        have HALL := Lib.hid hall
        have HB := Lib.hid hbk
        have HBW := Lib.hid hbw
        by_cases hlt : j < len
        · have hjm : (j : Int) < (len : Int) := by omega
          have hj2 : j < d.kids.length := by rw [← HLEN.out]; exact hlt
          obtain ⟨g, off, rfl, _, hg, kv2, h6, hk2⟩ := HKID.out j hj2
          obtain ⟨K, hK⟩ : ∃ K, K = d.kids[j]'hj2 := ⟨_, rfl⟩
          have h6' := h6.of (hbw.block _ hg)
          rw [← hK] at h6' hk2
          have g0 := h6'.kind
          have g1 := h6'.text
          have g2 := h6'.kids
          have g3 := h6'.brk
          have g4 := h6'.id
          have g5 := h6'.width
          have hkw : KV wr 0 wr.heap.size K kv2 := (hk2.below hbw (Nat.le_refl _)).wide (Nat.le_refl _) hbw.size
          have HC := Lib.hid ((HMEM.out j hj2).1 kv2 wr (hK ▸ hkw) (HMEM.out j hj2).2)
          rw [← hK] at HC
          have HKK := Lib.hid hK
          clear h6 h6' hk2 hK hall hbk hbw hkw
          go_wp2_with fail
          refine HC.out.mono ?_
          rintro e w2 ⟨rfl, hb2⟩
          have HB2 := Lib.hid (HBW.out.call hb2)
          have HBK2 := Lib.hid (HB.out.below hb2)
          clear hb2 c2 g0 g1 g2 g3 g4 g5
          cases hkd : K.quiet
          case true =>
            have HKD := Lib.hid hkd
            have hw2 : IntKind.i64.wrap ((j : Int) + 1) = (j : Int) + 1 := IntWalk.i64_in _ (by omega)
            clear hkd
            go_wp2_with fail
            go_roundw
            case rel =>
              refine ⟨j + 1, by omega, by go_num, fun x hx hxj => ?_, HBK2.out, HB2.out⟩
              rcases Nat.lt_or_ge x j with h | h
              · exact HALL.out x hx h
              · obtain rfl : x = j := by omega
                rw [← HKK.out]
                exact HKD.out
            case measure => simp only [intOf]; omega
          case false =>
            have HKD := Lib.hid hkd
            clear hkd
            go_wp2_with fail
            go_ret
            exact ⟨by rw [HBD.out j hj2 (by rw [← HKK.out]; exact HKD.out)]; rfl, HB2.out⟩
        · have hjm : j = len := by omega
          subst hjm
          go_wp2_with fail
          go_ret
          exact ⟨by rw [HAD.out (by have := H2.out; omega) (fun x hx => HALL.out x hx (by have := HLEN.out; omega))]; rfl, HBW.out⟩
  · have e4 : (kk == 10) = false := by simp; omega
    have H1 := Lib.hid h1
    clear h1
    go_enter Tryd.func31, Tryd.ntmps31
    go_wp2_with fail
    go_loopw [3] (fun i wr => ∃ j : Nat, j ≤ len ∧ i = .int .i64 (j : Int) ∧ (∀ x (hx : x < d.kids.length), x < j → (d.kids[x]).quiet = true) ∧ Blk wr w.heap.size [.int .i64 kk, .string d.text, .slice a len cap, .bool d.brk, .int .i64 ii, .int .i64 d.width] 24 ∧ Below w.heap.size w wr) (fun i _ => len - (intOf i).toNat)
    case atStart =>
      exact ⟨0, Nat.zero_le _, rfl, fun x _ h => absurd h (Nat.not_lt_zero x), HBK.out, (Below.refl _ w).alloc (Nat.le_refl _) _⟩
    case round =>
      obtain ⟨j, hj, rfl, hall, hbk, hbw⟩ := hrel
      have c2 := hbk.cell 2
      simp only [List.getElem?_cons_zero, List.getElem?_cons_succ] at c2
      have HALL := Lib.hid hall
      have HB := Lib.hid hbk
      have HBW := Lib.hid hbw
      by_cases hlt : j < len
      · have hjm : (j : Int) < (len : Int) := by omega
        have hj2 : j < d.kids.length := by rw [← HLEN.out]; exact hlt
        obtain ⟨g, off, rfl, _, hg, kv2, h6, hk2⟩ := HKID.out j hj2
        obtain ⟨K, hK⟩ : ∃ K, K = d.kids[j]'hj2 := ⟨_, rfl⟩
        have h6' := h6.of (hbw.block _ hg)
        rw [← hK] at h6' hk2
        have g0 := h6'.kind
        have g1 := h6'.text
        have g2 := h6'.kids
        have g3 := h6'.brk
        have g4 := h6'.id
        have g5 := h6'.width
        have hkw : KV wr 0 wr.heap.size K kv2 := (hk2.below hbw (Nat.le_refl _)).wide (Nat.le_refl _) hbw.size
        have HC := Lib.hid ((HMEM.out j hj2).1 kv2 wr (hK ▸ hkw) (HMEM.out j hj2).2)
        rw [← hK] at HC
        have HKK := Lib.hid hK
        clear h6 h6' hk2 hK hall hbk hbw hkw
        go_wp2_with fail
        refine HC.out.mono ?_
        rintro e w2 ⟨rfl, hb2⟩
        have HB2 := Lib.hid (HBW.out.call hb2)
        have HBK2 := Lib.hid (HB.out.below hb2)
        clear hb2 c2 g0 g1 g2 g3 g4 g5
        cases hkd : K.quiet
        case true =>
          have HKD := Lib.hid hkd
          have hw2 : IntKind.i64.wrap ((j : Int) + 1) = (j : Int) + 1 := IntWalk.i64_in _ (by omega)
          clear hkd
          go_wp2_with fail
          go_roundw
          case rel =>
            refine ⟨j + 1, by omega, by go_num, fun x hx hxj => ?_, HBK2.out, HB2.out⟩
            rcases Nat.lt_or_ge x j with h | h
            · exact HALL.out x hx h
            · obtain rfl : x = j := by omega
              rw [← HKK.out]
              exact HKD.out
          case measure => simp only [intOf]; omega
        case false =>
          have HKD := Lib.hid hkd
          clear hkd
          go_wp2_with fail
          go_ret
          exact ⟨by rw [HBD.out j hj2 (by rw [← HKK.out]; exact HKD.out)]; rfl, HB2.out⟩
      · have hjm : j = len := by omega
        subst hjm
        go_wp2_with fail
        go_ret
        exact ⟨by rw [HAD.out (by have := H0.out; have := H1.out; omega) (fun x hx => HALL.out x hx (by have := HLEN.out; omega))]; rfl, HBW.out⟩
end Go.Proofs.YthljgiimdcbfpaaDoor
