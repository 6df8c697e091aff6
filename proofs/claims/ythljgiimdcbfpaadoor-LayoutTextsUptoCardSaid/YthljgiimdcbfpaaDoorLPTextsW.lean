/- The walks of the law's texts and bare: a document's texts; a text without blanks and line ends. -/
import Derived.Test.YthljgiimdcbfpaaDoorLPTexts
import Derived.Test.YthljgiimdcbfpaaDoorMDoc
import Derived.Lib.BufferRead
namespace Go.Proofs.YthljgiimdcbfpaaDoor
open Go.RowKit
set_option maxRecDepth 100000
set_option linter.unusedVariables false
set_option linter.unusedSimpArgs false

theorem byteE17 : ByteElem Tryd.prog 35 5 := ByteElem.of (ElemOf.mk' (.int .u8 0) Tryd.underlying35 (by kernel_rfl) rfl (by decide)) (by kernel_rfl)
theorem elem17 : ElemOf Tryd.prog 35 5 1 1 := ElemOf.mk' (.int .u8 0) Tryd.underlying35 (by kernel_rfl) rfl (by decide)
/-- A slice that owns bytes, as a string. -/
theorem own_str {w : World} {base n : Nat} {v : Value} {l : List UInt8} (h : w.ownsRow base 5 1 v n (Lib.byteCells l)) :
    (convert 35 9 v).run Tryd.prog w = .ok (.string (strOf l)) w := by
  have hn : n = l.length := by have := h.1; rw [Lib.byteCells_length] at this; omega
  subst hn
  rcases h.2 with ⟨h1, h2⟩ | ⟨g, cap, cur, e, hb, r, h4, h5, h6, h7⟩
  · have h0 : l = [] := List.length_eq_zero_iff.1 h2
    subst h0
    subst h1
    exact Lib.run_convert_nil_bytes w _ _ 5 0 Tryd.underlying35 Tryd.underlying5 Tryd.underlying9
  · subst e
    refine run_convert_bytes_back (P := Tryd.prog) w 35 9 5 ⟨g, 0, none⟩ cap l Tryd.underlying35 Tryd.underlying5 Tryd.underlying9 (Lib.bytes_of_row r ?_)
    rw [← h7, Nat.mul_one]
theorem own_form {w : World} {base t size n : Nat} {v : Value} {xs : List Value} (h : w.ownsRow base t size v n xs) : ∃ A c, v = .slice A n c := by
  rcases h.2 with ⟨h1, h2⟩ | ⟨g, cap, cur, e, _⟩
  · exact ⟨none, 0, by rw [h1, h2]⟩
  · exact ⟨_, _, e⟩
/-- What is no row of bytes stays. -/
def Keeps8 (w w' : World) : Prop := ∀ g cs e, Blk w g cs e → e ≠ 5 → Blk w' g cs e
theorem Keeps8.refl (w : World) : Keeps8 w w := fun _ _ _ h _ => h
theorem Keeps8.trans {a b c : World} (h : Keeps8 a b) (k : Keeps8 b c) : Keeps8 a c := fun g cs e hb he => k g cs e (h g cs e hb he) he
theorem Keeps8.below {w w' : World} (h : Below w.heap.size w w') : Keeps8 w w' := fun _ _ _ hb _ => hb.below h
theorem Keeps8.grown {w w' : World} {base n : Nat} {v : Value} {xs : List Value} (ho : w.ownsRow base 5 1 v n xs) (h : w.grownBy w' v.ownBlock) : Keeps8 w w' := by
  intro g cs e hb he
  refine hb.grown h ?_
  intro hx
  rcases ho.2 with ⟨h1, h2⟩ | ⟨g2, cap, cur, e2, _, r, _⟩
  · rw [h1] at hx
    cases hx
  · subst e2
    have e3 : g = g2 := by simpa [Value.ownBlock] using hx
    subst e3
    unfold Blk at hb
    rw [hb] at r
    injection r with r
    injection r with r1 r2
    exact he r2

def TxIn (d : Doc) : Prop := ∀ (kv : Value) (w : World) (B n : Nat) (v : Value) (l : Ln), KV w 0 B d kv → B ≤ w.heap.size → d.bulk ≤ 4194304 → l.length + d.bulk ≤ 8388608 → w.ownsRow B 5 1 v l.length (Lib.byteCells l) →
    Calls Tryd.prog 20 #[v, docV d kv] w fun e w' => ∃ v', e = .returned v' ∧ w'.ownsRow B 5 1 v' (l ++ d.textsL).length (Lib.byteCells (l ++ d.textsL)) ∧ Below B w w' ∧ Keeps8 w w'
theorem txs_take {ks : List Doc} {j : Nat} (hj : j < ks.length) : textsLL (ks.take (j + 1)) = textsLL (ks.take j) ++ (ks[j]).textsL := by
  rw [List.take_succ_eq_append_getElem hj, textsLL_app]
  show _ ++ (Doc.textsL _ ++ []) = _
  rw [List.append_nil]
theorem txs_room {ks : List Doc} {j : Nat} (hj : j < ks.length) : (textsLL (ks.take j)).length + (ks[j]).bulk ≤ bulkL ks := by
  have h1 := textsLL_len (ks.take j)
  have h2 : bulkL ks = bulkL (ks.take j) + bulkL (ks.drop j) := by rw [← bulkL_app, List.take_append_drop]
  have h3 : bulkL (ks.drop j) = (ks[j]).bulk + bulkL (ks.drop (j + 1)) := by
    rw [List.drop_eq_getElem_cons hj]
    rfl
  omega
def hdL (k : Int) (t : ByteArray) : Ln := if k = 1 then t.data.toList else []
set_option maxHeartbeats 1000000 in
theorem textsIn_any (d : Doc) : TxIn d := by
  refine Doc.ind (P := TxIn) (fun d ih => ?_) d
  intro kv w B n v l hk hB hb hl hown
  obtain ⟨a, cap, rfl⟩ := hk.slice
  obtain ⟨A0, c0, rfl⟩ := own_form hown
  have hcap := hk.cap
  have hkid := fun j hj => hk.kid (j := j) hj
  have hmem : ∀ j (hj : j < d.kids.length), TxIn d.kids[j] ∧ (d.kids[j]).bulk ≤ 4194304 := fun j hj => ⟨ih _ (List.getElem_mem hj), by have := Doc.kid_bulk (List.getElem_mem hj); omega⟩
  have hlen : d.kids.length < 4194304 := by have := d.kids_len; omega
  have hbk := Blk.new w (docCells d (.slice a d.kids.length cap)) 24
  obtain ⟨P, hP⟩ : ∃ P : Nat → Ln, P = fun j => (l ++ hdL d.kind d.text) ++ textsLL (d.kids.take j) := ⟨_, rfl⟩
  have hP0 : P 0 = l ++ hdL d.kind d.text := by rw [hP]; exact List.append_nil _
  have hPn : P d.kids.length = l ++ d.textsL := by
    rw [hP, Doc.textsL_eq, ← List.append_assoc]
    show _ ++ textsLL (d.kids.take d.kids.length) = _
    rw [List.take_length]
    rfl
  have hPs : ∀ j (hj : j < d.kids.length), P (j + 1) = P j ++ (d.kids[j]).textsL := by
    intro j hj
    rw [hP]
    show _ ++ textsLL (d.kids.take (j + 1)) = _
    rw [txs_take hj, ← List.append_assoc]
  have hPr : ∀ j (hj : j < d.kids.length), (P j).length + (d.kids[j]).bulk ≤ 8388608 := by
    intro j hj
    have h1 := txs_room hj
    have h2 := Doc.bulk_eq d
    have h3 : (hdL d.kind d.text).length ≤ d.text.size := by
      unfold hdL
      split
      · rw [Array.length_toList]; exact Nat.le_refl _
      · exact Nat.zero_le _
    rw [hP]
    show (_ ++ textsLL (d.kids.take j)).length + _ ≤ _
    rw [List.length_append, List.length_append]
    omega
  have hts : l.length + d.text.size ≤ 8388608 := by have := Doc.bulk_eq d; omega
  obtain ⟨len, hlen2⟩ : ∃ z, z = d.kids.length := ⟨_, rfl⟩
  simp only [← hlen2] at hlen hcap hbk hPn
  obtain ⟨kk, hkk⟩ : ∃ z, z = d.kind := ⟨_, rfl⟩
  obtain ⟨tt, htt⟩ : ∃ z, z = d.text := ⟨_, rfl⟩
  obtain ⟨ii, hii⟩ : ∃ z, z = d.id := ⟨_, rfl⟩
  unfold docCells at hbk
  rw [← hkk, ← htt, ← hii] at hbk
  rw [← hkk, ← htt] at hP0
  rw [← htt] at hts
  have HKID := Lib.hid hkid
  have HMEM := Lib.hid hmem
  have HBK := Lib.hid hbk
  have HLEN := Lib.hid hlen2
  have HP0 := Lib.hid hP0
  have HPN := Lib.hid hPn
  have HPS := Lib.hid hPs
  have HPR := Lib.hid hPr
  have HOW := Lib.hid hown
  clear hk hkid hmem hbk ih hP0 hPn hPs hPr hP hown hl hb
  rw [← hlen2]
  clear hlen2
  unfold docV
  rw [← hkk, ← htt, ← hii]
  clear hkk hii htt
  have d0 := HBK.out.cell 0
  have d1 := HBK.out.cell 1
  simp only [List.getElem?_cons_zero, List.getElem?_cons_succ] at d0 d1
  have HALL := Lib.hid ((Below.refl w.heap.size w).alloc (Nat.le_refl _) (.cells #[.int .i64 kk, .string tt, .slice a len cap, .bool d.brk, .int .i64 ii, .int .i64 d.width] 24))
  by_cases hk1 : kk = 1
  · subst hk1
    go_enter Tryd.func20, Tryd.ntmps20
    go_wp2_with (at_builtin; refine wpList_append_str rfl (.tmp 9) (.tmp 11) _ _ _ rfl byteE17 Tryd.underlying9 w w B (Below.refl _ _) hB HALL.out (.slice A0 l.length c0) l.length l rfl HOW.out tt rfl (by unfold maxLen; omega) (by omega) ?_; intro v1 w1 ho1 hb1 hg1 hlt1; have HO1 := Lib.hid ho1; have HB1 := Lib.hid hb1; have HG1 := Lib.hid hg1; have HL1 := Lib.hid hlt1; clear ho1 hb1 hg1 hlt1)
    have HOS : Hid (w1.ownsRow B 5 1 v1 (P 0).length (Lib.byteCells (P 0))) := Lib.hid (by
      have e : P 0 = l ++ tt.data.toList := HP0.out
      have e2 : (P 0).length = l.length + tt.size := by rw [e, List.length_append, Array.length_toList]; rfl
      rw [e2, e]
      exact HO1.out)
    have HBS : Hid (Blk w1 w.heap.size [.int .i64 1, .string tt, .slice a len cap, .bool d.brk, .int .i64 ii, .int .i64 d.width] 24) := Lib.hid (HBK.out.grown HG1.out (by intro e; exact absurd (HL1.out _ e.symm).2 (by omega)))
    have HKS : Hid (Keeps8 w w1) := Lib.hid ((Keeps8.below HALL.out).trans (Keeps8.grown (own_below HOW.out HALL.out) HG1.out))
    have HZS : Hid (w.heap.size < w1.heap.size) := Lib.hid HBS.out.lt
    clear HO1 HG1 HL1 HALL HBK d0 d1
    go_loopw [0, 5] (fun out i wr => ∃ j : Nat, j ≤ len ∧ i = .int .i64 (j : Int) ∧ wr.ownsRow B 5 1 out (P j).length (Lib.byteCells (P j)) ∧ Blk wr w.heap.size [.int .i64 1, .string tt, .slice a len cap, .bool d.brk, .int .i64 ii, .int .i64 d.width] 24 ∧ Below B w wr ∧ Keeps8 w wr) (fun out i _ => len - (intOf i).toNat)
    case atStart =>
      exact ⟨0, Nat.zero_le _, rfl, HOS.out, HBS.out, HB1.out, HKS.out⟩
    case round =>
      clear HOS HBS HB1 HKS HZS
      obtain ⟨j, hj, rfl, hown, hbk, hbw, hks⟩ := hrel
      obtain ⟨A, cp, rfl⟩ := own_form hown
      have c2 := hbk.cell 2
      simp only [List.getElem?_cons_zero, List.getElem?_cons_succ] at c2
      have HO := Lib.hid hown
      have HB := Lib.hid hbk
      have HBW := Lib.hid hbw
      have HKS := Lib.hid hks
      by_cases hlt : j < len
      · have hjm : (j : Int) < (len : Int) := by omega
        have hj2 : j < d.kids.length := by rw [← HLEN.out]; exact hlt
        obtain ⟨g, off, rfl, _, hg, kv2, h6, hk2⟩ := HKID.out j hj2
        obtain ⟨K, hK⟩ : ∃ K, K = d.kids[j]'hj2 := ⟨_, rfl⟩
        have h6' := h6.of (hbw.block _ hg)
        rw [← hK] at h6' hk2
        have g0 := h6'.kind
        have g1 := h6'.text
        have g2 := h6'.kids
        have g3 := h6'.brk
        have g4 := h6'.id
        have g5 := h6'.width
        have hkw : KV wr 0 B K kv2 := hk2.of (Nat.le_refl _) (Nat.le_refl _) (fun b _ h2 => hbw.block b h2)
        have HC := Lib.hid ((HMEM.out j hj2).1 kv2 wr B 0 (.slice A (P j).length cp) (P j) (hK ▸ hkw) (Nat.le_trans hB hbw.size) (HMEM.out j hj2).2 (HPR.out j hj2) hown)
        rw [← HPS.out j hj2, ← hK] at HC
        clear h6 h6' hk2 hK hown hbk hbw hkw hks
        go_wp2_with fail
        refine HC.out.mono ?_
        rintro e w2 ⟨v2, rfl, ho2, hb2, hk2⟩
        have HO2 := Lib.hid ho2
        have HB2 := Lib.hid (HBW.out.trans hb2)
        have HK2 := Lib.hid (HKS.out.trans hk2)
        have HBK2 := Lib.hid (hk2 _ _ _ HB.out (by decide))
        clear ho2 hb2 hk2 c2 g0 g1 g2 g3 g4 g5
        have hw2 : IntKind.i64.wrap ((j : Int) + 1) = (j : Int) + 1 := IntWalk.i64_in _ (by omega)
        go_wp2_with fail
        go_roundw
        case rel => exact ⟨j + 1, by omega, by go_num, HO2.out, HBK2.out, HB2.out, HK2.out⟩
        case measure => simp only [intOf]; omega
      · have hjm : j = len := by omega
        subst hjm
        go_wp2_with fail
        go_ret
        refine ⟨_, rfl, ?_, HBW.out, HKS.out⟩
        rw [← HPN.out]
        exact HO.out
  · have e1 : (kk == 1) = false := by simpa using hk1
    go_enter Tryd.func20, Tryd.ntmps20
    go_wp2_with fail
    have HOS : Hid ((w.alloc (.cells #[.int .i64 kk, .string tt, .slice a len cap, .bool d.brk, .int .i64 ii, .int .i64 d.width] 24)).ownsRow B 5 1 (.slice A0 l.length c0) (P 0).length (Lib.byteCells (P 0))) := Lib.hid (by
      have e : P 0 = l := by rw [HP0.out]; unfold hdL; rw [if_neg hk1, List.append_nil]
      rw [e]
      exact own_below HOW.out HALL.out)
    have HBS := HBK
    have HKS : Hid (Keeps8 w _) := Lib.hid (Keeps8.below HALL.out)
    have HB1 : Hid (Below B w _) := Lib.hid (HALL.out.mono hB)
    have HZS : Hid (w.heap.size < (w.alloc (.cells #[.int .i64 kk, .string tt, .slice a len cap, .bool d.brk, .int .i64 ii, .int .i64 d.width] 24)).heap.size) := Lib.hid (by simp)
    clear HALL HBK d0 d1
    go_loopw [0, 5] (fun out i wr => ∃ j : Nat, j ≤ len ∧ i = .int .i64 (j : Int) ∧ wr.ownsRow B 5 1 out (P j).length (Lib.byteCells (P j)) ∧ Blk wr w.heap.size [.int .i64 kk, .string tt, .slice a len cap, .bool d.brk, .int .i64 ii, .int .i64 d.width] 24 ∧ Below B w wr ∧ Keeps8 w wr) (fun out i _ => len - (intOf i).toNat)
    case atStart =>
      exact ⟨0, Nat.zero_le _, rfl, HOS.out, HBS.out, HB1.out, HKS.out⟩
    case round =>
      clear HOS HBS HB1 HKS HZS
      obtain ⟨j, hj, rfl, hown, hbk, hbw, hks⟩ := hrel
      obtain ⟨A, cp, rfl⟩ := own_form hown
      have c2 := hbk.cell 2
      simp only [List.getElem?_cons_zero, List.getElem?_cons_succ] at c2
      have HO := Lib.hid hown
      have HB := Lib.hid hbk
      have HBW := Lib.hid hbw
      have HKS := Lib.hid hks
      by_cases hlt : j < len
      · have hjm : (j : Int) < (len : Int) := by omega
        have hj2 : j < d.kids.length := by rw [← HLEN.out]; exact hlt
        obtain ⟨g, off, rfl, _, hg, kv2, h6, hk2⟩ := HKID.out j hj2
        obtain ⟨K, hK⟩ : ∃ K, K = d.kids[j]'hj2 := ⟨_, rfl⟩
        have h6' := h6.of (hbw.block _ hg)
        rw [← hK] at h6' hk2
        have g0 := h6'.kind
        have g1 := h6'.text
        have g2 := h6'.kids
        have g3 := h6'.brk
        have g4 := h6'.id
        have g5 := h6'.width
        have hkw : KV wr 0 B K kv2 := hk2.of (Nat.le_refl _) (Nat.le_refl _) (fun b _ h2 => hbw.block b h2)
        have HC := Lib.hid ((HMEM.out j hj2).1 kv2 wr B 0 (.slice A (P j).length cp) (P j) (hK ▸ hkw) (Nat.le_trans hB hbw.size) (HMEM.out j hj2).2 (HPR.out j hj2) hown)
        rw [← HPS.out j hj2, ← hK] at HC
        clear h6 h6' hk2 hK hown hbk hbw hkw hks
        go_wp2_with fail
        refine HC.out.mono ?_
        rintro e w2 ⟨v2, rfl, ho2, hb2, hk2⟩
        have HO2 := Lib.hid ho2
        have HB2 := Lib.hid (HBW.out.trans hb2)
        have HK2 := Lib.hid (HKS.out.trans hk2)
        have HBK2 := Lib.hid (hk2 _ _ _ HB.out (by decide))
        clear ho2 hb2 hk2 c2 g0 g1 g2 g3 g4 g5
        have hw2 : IntKind.i64.wrap ((j : Int) + 1) = (j : Int) + 1 := IntWalk.i64_in _ (by omega)
        go_wp2_with fail
        go_roundw
        case rel => exact ⟨j + 1, by omega, by go_num, HO2.out, HBK2.out, HB2.out, HK2.out⟩
        case measure => simp only [intOf]; omega
      · have hjm : j = len := by omega
        subst hjm
        go_wp2_with fail
        go_ret
        refine ⟨_, rfl, ?_, HBW.out, HKS.out⟩
        rw [← HPN.out]
        exact HO.out
theorem byte_ne {c : UInt8} {k : Nat} (hk : k < 256) : (((c.toNat : Nat) : Int) != (k : Int)) = (c != UInt8.ofNat k) := by
  rw [Bool.eq_iff_iff, bne_iff_ne, bne_iff_ne]
  constructor
  · intro h e
    subst e
    exact h (by simp; omega)
  · intro h e
    refine h (UInt8.toNat_inj.1 ?_)
    have : c.toNat = k := by omega
    rw [this]
    simp
    omega
theorem bareB_of {c : UInt8} (h1 : c.toNat ≠ 32) (h2 : c.toNat ≠ 9) (h3 : c.toNat ≠ 10) (h4 : c.toNat ≠ 13) : bareB c = true := by
  unfold bareB
  simp only [Bool.and_eq_true, bne_iff_ne]
  exact ⟨⟨⟨fun e => h1 (by rw [e]; rfl), fun e => h2 (by rw [e]; rfl)⟩, fun e => h3 (by rw [e]; rfl)⟩, fun e => h4 (by rw [e]; rfl)⟩
theorem bareB_no {c : UInt8} (h : c.toNat = 32 ∨ c.toNat = 9 ∨ c.toNat = 10 ∨ c.toNat = 13) : bareB c = false := by
  rcases h with h | h | h | h
  · obtain rfl : c = 32 := UInt8.toNat_inj.1 h
    rfl
  · obtain rfl : c = 9 := UInt8.toNat_inj.1 h
    rfl
  · obtain rfl : c = 10 := UInt8.toNat_inj.1 h
    rfl
  · obtain rfl : c = 13 := UInt8.toNat_inj.1 h
    rfl
theorem bare_step {S : ByteArray} {j : Nat} (hj : j < S.size) : bareL (S.data.toList.take (j + 1)) = bareL (S.data.toList.take j) ++ (if bareB S[j] then [S[j]] else []) := by
  have hj2 : j < S.data.toList.length := by rw [Array.length_toList]; exact hj
  rw [List.take_succ_eq_append_getElem hj2, bareL_app]
  have e : S.data.toList[j] = S[j] := by rw [Array.getElem_toList]; rfl
  rw [e]
  congr 1
  unfold bareL
  rw [List.filter_cons, List.filter_nil]
theorem bare_len (l : Ln) (j : Nat) : (bareL (l.take j)).length ≤ j := by
  have h1 := List.length_filter_le bareB (l.take j)
  have h2 := List.length_take_le j l
  exact Nat.le_trans h1 h2
set_option maxHeartbeats 1000000 in
theorem bare_any (S : ByteArray) (w : World) (hS : S.size ≤ 67108864) :
    Calls Tryd.prog 19 #[.string S] w fun e w' => e = .returned (.string (strOf (bareL S.data.toList))) ∧ Below w.heap.size w w' := by
  obtain ⟨P, hP⟩ : ∃ P : Nat → Ln, P = fun j => bareL (S.data.toList.take j) := ⟨_, rfl⟩
  have HP0 : Hid (P 0 = []) := Lib.hid (by rw [hP]; rfl)
  have HPN : Hid (P S.size = bareL S.data.toList) := Lib.hid (by
    rw [hP]
    show bareL (S.data.toList.take S.size) = _
    rw [List.take_of_length_le (by rw [Array.length_toList]; exact Nat.le_refl _)])
  have HPS : Hid (∀ j (hj : j < S.size), P (j + 1) = P j ++ (if bareB S[j] then [S[j]] else [])) := Lib.hid (by rw [hP]; exact fun j hj => bare_step hj)
  have HPL : Hid (∀ j, (P j).length ≤ j) := Lib.hid (by rw [hP]; exact fun j => bare_len _ j)
  clear hP
  go_enter Tryd.func19, Tryd.ntmps19
  go_wp2_with fail
  go_loopw [3, 4] (fun out i wr => ∃ j : Nat, j ≤ S.size ∧ i = .int .i64 (j : Int) ∧ wr.ownsRow w.heap.size 5 1 out (P j).length (Lib.byteCells (P j)) ∧ Below w.heap.size w wr) (fun out i _ => S.size - (intOf i).toNat)
  case atStart => exact ⟨0, Nat.zero_le _, rfl, by rw [HP0.out]; exact World.ownsRow_nil _ _ _ _, Below.refl _ w⟩
  case round =>
    obtain ⟨j, hj, rfl, hown, hbw⟩ := hrel
    obtain ⟨A, cp, rfl⟩ := own_form hown
    have HOW := Lib.hid hown
    have HBW := Lib.hid hbw
    have hz := hbw.size
    clear hown hbw
    by_cases hlt : j < S.size
    · have hjm : (j : Int) < (S.size : Int) := by omega
      have hw1 : IntKind.i64.wrap ((j : Int) + 1) = (j : Int) + 1 := IntWalk.i64_in _ (by omega)
      have hpl := HPL.out j
      have hps := HPS.out j hlt
      have hgl : ∀ (p : j < S.size), S[j]'p = S[j]'hlt := fun p => rfl
      generalize S[j]'hlt = c at *
      have hc : (c.toNat ≠ 32 ∧ c.toNat ≠ 9 ∧ c.toNat ≠ 10 ∧ c.toNat ≠ 13) ∨ (c.toNat = 32 ∨ c.toNat = 9 ∨ c.toNat = 10 ∨ c.toNat = 13) := by omega
      rcases hc with ⟨n1, n2, n3, n4⟩ | hc
      · rw [bareB_of n1 n2 n3 n4, if_pos rfl] at hps
        have HPSJ := Lib.hid hps
        have e1 : ((c.toNat : Int) != 32) = true := by rw [bne_iff_ne]; omega
        have e2 : ((c.toNat : Int) != 9) = true := by rw [bne_iff_ne]; omega
        have e3 : ((c.toNat : Int) != 10) = true := by rw [bne_iff_ne]; omega
        have e4 : ((c.toNat : Int) != 13) = true := by rw [bne_iff_ne]; omega
        have HBR := Lib.hid ((Below.refl wr.heap.size wr).alloc (Nat.le_refl _) (.cells #[.int .u8 (c.toNat : Int)] 5))
        clear hps n1 n2 n3 n4
        go_wp2_with (at_builtin; refine wpList_append_blk rfl (.tmp 33) (.tmp 37) _ _ 1 1 rfl elem17 w wr w.heap.size HBW.out hz HBR.out (.slice A (P j).length cp) (P j).length (Lib.byteCells (P j)) rfl HOW.out _ 1 [.int .u8 (c.toNat : Int)] rfl (Blk.new' _ _ (by simp)) rfl (bcells_one [c]) (by unfold maxLen; omega) (by omega) ?_; intro v1 W1 ho1 hb1 hg1 hlt1; have HO1 := Lib.hid ho1; have HB1 := Lib.hid hb1; clear ho1 hb1 hg1 hlt1)
        go_roundw
        case rel =>
          refine ⟨j + 1, by omega, by go_num, ?_, HB1.out⟩
          rw [HPSJ.out, List.length_append, bcells_app]
          exact HO1.out
        case measure => simp [intOf]; omega
      · have hb0 : bareB c = false := bareB_no hc
        rw [hb0, if_neg (by decide), List.append_nil] at hps
        have HPSJ := Lib.hid hps
        clear hps hb0
        rcases hc with hc | hc | hc | hc
        · have e0 : ((c.toNat : Int) != 32) = false := by rw [bne_eq_false_iff_eq]; omega
          clear hc
          go_wp2_with fail
          go_roundw
          case rel =>
            refine ⟨j + 1, by omega, by go_num, ?_, HBW.out⟩
            rw [HPSJ.out]
            exact HOW.out
          case measure => simp [intOf]; omega
        · have e0 : ((c.toNat : Int) != 32) = true := by rw [bne_iff_ne]; omega
          have e1 : ((c.toNat : Int) != 9) = false := by rw [bne_eq_false_iff_eq]; omega
          clear hc
          go_wp2_with fail
          go_roundw
          case rel =>
            refine ⟨j + 1, by omega, by go_num, ?_, HBW.out⟩
            rw [HPSJ.out]
            exact HOW.out
          case measure => simp [intOf]; omega
        · have e0 : ((c.toNat : Int) != 32) = true := by rw [bne_iff_ne]; omega
          have e1 : ((c.toNat : Int) != 9) = true := by rw [bne_iff_ne]; omega
          have e2 : ((c.toNat : Int) != 10) = false := by rw [bne_eq_false_iff_eq]; omega
          clear hc
          go_wp2_with fail
          go_roundw
          case rel =>
            refine ⟨j + 1, by omega, by go_num, ?_, HBW.out⟩
            rw [HPSJ.out]
            exact HOW.out
          case measure => simp [intOf]; omega
        · have e0 : ((c.toNat : Int) != 32) = true := by rw [bne_iff_ne]; omega
          have e1 : ((c.toNat : Int) != 9) = true := by rw [bne_iff_ne]; omega
          have e2 : ((c.toNat : Int) != 10) = true := by rw [bne_iff_ne]; omega
          have e3 : ((c.toNat : Int) != 13) = false := by rw [bne_eq_false_iff_eq]; omega
          clear hc
          go_wp2_with fail
          go_roundw
          case rel =>
            refine ⟨j + 1, by omega, by go_num, ?_, HBW.out⟩
            rw [HPSJ.out]
            exact HOW.out
          case measure => simp [intOf]; omega
    · have hji : (S.size : Int) ≤ (j : Int) := by omega
      have HPJ : Hid (P j = bareL S.data.toList) := Lib.hid (by rw [show j = S.size by omega]; exact HPN.out)
      have HCV := own_str HOW.out
      go_wp2_with fail
      go_ret
      exact ⟨by rw [HPJ.out]; rfl, HBW.out⟩

end Go.Proofs.YthljgiimdcbfpaaDoor
