/- A valid text cut anywhere; numbers turned into a text. Plain Lean. -/
import Derived.Test.YtidekaeccillhaaDoorUniLawPlain
import Derived.Laws.Cover4
namespace Go.Proofs.YtidekaeccillhaaDoor

/-- What a character's length leans on. -/
theorem lenF_need {b0 b1 : Nat} {t1 t2 t3 : Bool} (hL : lenF b0 b1 t1 t2 t3 ≠ 0) :
    (2 ≤ lenF b0 b1 t1 t2 t3 → t1 = true) ∧ (3 ≤ lenF b0 b1 t1 t2 t3 → t2 = true) ∧ (4 ≤ lenF b0 b1 t1 t2 t3 → t3 = true) ∧
      ∀ (c1 : Nat) (u1 u2 u3 : Bool), (2 ≤ lenF b0 b1 t1 t2 t3 → u1 = true ∧ b1 = c1) → (3 ≤ lenF b0 b1 t1 t2 t3 → u2 = true) → (4 ≤ lenF b0 b1 t1 t2 t3 → u3 = true) → lenF b0 c1 u1 u2 u3 = lenF b0 b1 t1 t2 t3 := by
  by_cases k0 : b0 < 128
  · have e : ∀ c u1 u2 u3, lenF b0 c u1 u2 u3 = 1 := fun c u1 u2 u3 => by unfold lenF; rw [if_pos k0]
    rw [e]
    refine ⟨by omega, by omega, by omega, fun c1 u1 u2 u3 _ _ _ => e _ _ _ _⟩
  by_cases k1 : 194 ≤ b0 ∧ b0 < 224
  · have e : ∀ c u1 u2 u3, lenF b0 c u1 u2 u3 = if u1 = true then 2 else 0 := fun c u1 u2 u3 => by
      unfold lenF
      rw [if_neg k0, if_neg (c := 224 ≤ b0 ∧ _) (by omega), if_neg (c := 240 ≤ b0 ∧ _) (by omega)]
      simp [k1]
    rw [e] at hL ⊢
    cases t1
    · simp at hL
    · refine ⟨fun _ => rfl, fun h => by simp at h, fun h => by simp at h, fun c1 u1 u2 u3 h1 _ _ => ?_⟩
      rw [e, (h1 (by simp)).1]
  by_cases k2 : 224 ≤ b0 ∧ b0 < 240
  · have e : ∀ c u1 u2 u3, lenF b0 c u1 u2 u3 = if u1 = true ∧ u2 = true then (if (b0 = 224 ∧ c < 160) ∨ (b0 = 237 ∧ 160 ≤ c) then 0 else 3) else 0 := fun c u1 u2 u3 => by
      unfold lenF
      rw [if_neg k0, if_neg (c := 194 ≤ b0 ∧ _) (by omega), if_neg (c := 240 ≤ b0 ∧ _) (by omega)]
      simp only [k2, true_and]
    rw [e] at hL ⊢
    cases t1
    · simp at hL
    cases t2
    · simp at hL
    have hc : ¬ ((b0 = 224 ∧ b1 < 160) ∨ (b0 = 237 ∧ 160 ≤ b1)) := fun h => by simp [h] at hL
    rw [if_pos ⟨rfl, rfl⟩, if_neg hc]
    refine ⟨fun _ => rfl, fun _ => rfl, by omega, fun c1 u1 u2 u3 h1 h2 _ => ?_⟩
    obtain ⟨rfl, rfl⟩ := h1 (by omega)
    rw [e, if_pos ⟨rfl, h2 (by omega)⟩, if_neg hc]
  by_cases k3 : 240 ≤ b0 ∧ b0 < 245
  · have e : ∀ c u1 u2 u3, lenF b0 c u1 u2 u3 = if u1 = true ∧ u2 = true ∧ u3 = true then (if (b0 = 240 ∧ c < 144) ∨ (b0 = 244 ∧ 144 ≤ c) then 0 else 4) else 0 := fun c u1 u2 u3 => by
      unfold lenF
      rw [if_neg k0, if_neg (c := 194 ≤ b0 ∧ _) (by omega), if_neg (c := 224 ≤ b0 ∧ _) (by omega)]
      simp only [k3, true_and]
    rw [e] at hL ⊢
    cases t1
    · simp at hL
    cases t2
    · simp at hL
    cases t3
    · simp at hL
    have hc : ¬ ((b0 = 240 ∧ b1 < 144) ∨ (b0 = 244 ∧ 144 ≤ b1)) := fun h => by simp [h] at hL
    rw [if_pos ⟨rfl, rfl, rfl⟩, if_neg hc]
    refine ⟨fun _ => rfl, fun _ => rfl, fun _ => rfl, fun c1 u1 u2 u3 h1 h2 h3 => ?_⟩
    obtain ⟨rfl, rfl⟩ := h1 (by omega)
    rw [e, if_pos ⟨rfl, h2 (by omega), h3 (by omega)⟩, if_neg hc]
  · exfalso
    apply hL
    unfold lenF
    rw [if_neg k0, if_neg (by omega), if_neg (by omega), if_neg (by omega)]

theorem cut_byt (s : ByteArray) (k : Nat) (_hk : k ≤ s.size) (j : Nat) (h : j < k) : byt (s.extract 0 k) j = byt s j := by
  rw [byt_list, byt_list, Lib.extract_data, List.drop_zero, Nat.sub_zero, List.getElem?_take, if_pos h]
section
variable (s : ByteArray) (k : Nat) (hk : k ≤ s.size)
include hk
/-- The first k bytes of a text. -/
theorem cut_size : (s.extract 0 k).size = k := by
  rw [size_list, Lib.extract_data]
  simp
  have := size_list s
  simp at this
  omega
theorem cut_tail (j : Nat) : tailB (s.extract 0 k) j = (decide (j < k) && tailB s j) := by
  unfold tailB
  rw [cut_size s k hk]
  by_cases h : j < k
  · rw [cut_byt s k hk j h]
    have : j < s.size := by omega
    simp [h, this]
  · simp [h]
/-- A character that lies within the cut is there; one that does not is none. -/
theorem cut_in (pos : Nat) (hb : lenB s pos ≠ 0) (h : pos + lenB s pos ≤ k) : lenB (s.extract 0 k) pos = lenB s pos := by
  have hn := lenF_need (b0 := byt s pos) (b1 := byt s (pos + 1)) (t1 := tailB s (pos + 1)) (t2 := tailB s (pos + 2)) (t3 := tailB s (pos + 3)) hb
  rw [lenB_F] at hb h
  rw [lenB_F (s.extract 0 k), lenB_F s, cut_byt s k hk pos (by omega)]
  refine hn.2.2.2 _ _ _ _ (fun h2 => ⟨?_, ?_⟩) (fun h3 => ?_) (fun h4 => ?_)
  · rw [cut_tail s k hk, hn.1 h2]
    simp
    omega
  · rw [cut_byt s k hk _ (by omega)]
  · rw [cut_tail s k hk, hn.2.1 h3]
    simp
    omega
  · rw [cut_tail s k hk, hn.2.2.1 h4]
    simp
    omega
theorem cut_out (pos : Nat) (hp : pos < k) (h : k < pos + lenB s pos) : lenB (s.extract 0 k) pos = 0 := by
  by_cases h0 : lenB (s.extract 0 k) pos = 0
  · exact h0
  · exfalso
    have h0' := h0
    rw [lenB_F] at h0
    have e := (charF_ext (c1 := byt s (pos + 1)) (c2 := byt s (pos + 2)) (c3 := byt s (pos + 3)) (b2 := byt (s.extract 0 k) (pos + 2)) (b3 := byt (s.extract 0 k) (pos + 3)) (u1 := tailB s (pos + 1)) (u2 := tailB s (pos + 2)) (u3 := tailB s (pos + 3))
      (fun ht => ?_) (fun ht => ?_) (fun ht => ?_) h0).2
    · rw [cut_byt s k hk pos hp] at e
      have hin := decode_in (s.extract 0 k) pos (by rw [cut_size s k hk]; exact hp)
      rw [decode_two, if_neg h0', cut_size s k hk, lenB_F, cut_byt s k hk pos hp, ← e, ← lenB_F] at hin
      omega
    all_goals
      have ht' := ht
      rw [cut_tail s k hk, Bool.and_eq_true, decide_eq_true_eq] at ht'
      exact ⟨ht'.2, cut_byt s k hk _ ht'.1⟩
end

/-- The last place not beyond k where a character begins. -/
def begFrom (s : ByteArray) (k : Nat) : Nat → Nat → Nat → Nat
  | 0, _, b => b
  | f + 1, pos, b => if pos < s.size then begFrom s k f (pos + (Utf8.decode s pos).2) (if pos ≤ k then pos else b) else b
theorem begFrom_fuel (s : ByteArray) (k : Nat) : ∀ (f g pos b : Nat), s.size ≤ pos + f → s.size ≤ pos + g → begFrom s k f pos b = begFrom s k g pos b
  | 0, 0, _, _, _, _ => rfl
  | 0, g + 1, pos, b, h, _ => by
    have : ¬ pos < s.size := by omega
    simp [begFrom, this]
  | f + 1, 0, pos, b, _, h => by
    have : ¬ pos < s.size := by omega
    simp [begFrom, this]
  | f + 1, g + 1, pos, b, h, h' => by
    have hp := decode_pos s pos
    simp only [begFrom]
    by_cases hlt : pos < s.size
    · rw [if_pos hlt, if_pos hlt, begFrom_fuel s k f g _ _ (by omega) (by omega)]
    · rw [if_neg hlt, if_neg hlt]
def begRest (s : ByteArray) (k pos b : Nat) : Nat := begFrom s k (s.size - pos) pos b
theorem begRest_end (s : ByteArray) (k pos b : Nat) (h : ¬ pos < s.size) : begRest s k pos b = b := by
  unfold begRest
  have : s.size - pos = 0 := by omega
  rw [this]; rfl
theorem begRest_step (s : ByteArray) (k pos b : Nat) (h : pos < s.size) : begRest s k pos b = begRest s k (pos + (Utf8.decode s pos).2) (if pos ≤ k then pos else b) := by
  have hp := decode_pos s pos
  have hi := decode_in s pos h
  unfold begRest
  obtain ⟨f, hf⟩ : ∃ f, s.size - pos = f + 1 := ⟨s.size - pos - 1, by omega⟩
  rw [hf]
  simp only [begFrom]
  rw [if_pos h, begFrom_fuel s k f (s.size - (pos + (Utf8.decode s pos).2)) _ _ (by omega) (by omega)]
theorem begFrom_far (s : ByteArray) (k : Nat) : ∀ (f pos b : Nat), k < pos → begFrom s k f pos b = b
  | 0, _, _, _ => rfl
  | f + 1, pos, b, h => by
    have hp := decode_pos s pos
    simp only [begFrom]
    by_cases hlt : pos < s.size
    · rw [if_pos hlt, if_neg (by omega), begFrom_far s k f _ _ (by omega)]
    · rw [if_neg hlt]

/-- THE CUT: valid just where a character ends, else the fault stands where the cut one begins. -/
theorem cut_said (s : ByteArray) (k : Nat) (hk : k ≤ s.size) : ∀ (n pos b : Nat), badRest s pos = Option.none → pos ≤ k → k - pos ≤ n →
    ∃ B, (if k = s.size then k else begRest s k pos b) = B ∧ (B = k → badRest (s.extract 0 k) pos = Option.none) ∧ (B ≠ k → badRest (s.extract 0 k) pos = some B) := by
  intro n
  induction n with
  | zero =>
    intro pos b hn hp hle
    obtain rfl : pos = k := by omega
    have he : badRest (s.extract 0 pos) pos = Option.none := badRest_end _ _ (by rw [cut_size s pos hk]; omega)
    by_cases hz : pos = s.size
    · exact ⟨pos, by rw [if_pos hz], fun _ => he, fun h => absurd rfl h⟩
    · refine ⟨pos, ?_, fun _ => he, fun h => absurd rfl h⟩
      have hp1 := decode_pos s pos
      rw [if_neg hz, begRest_step s pos pos b (by omega), if_pos (Nat.le_refl _)]
      exact begFrom_far s pos _ _ _ (by omega)
  | succ n ih =>
    intro pos b hn hp hle
    by_cases hpk : pos = k
    · subst hpk
      have he : badRest (s.extract 0 pos) pos = Option.none := badRest_end _ _ (by rw [cut_size s pos hk]; omega)
      by_cases hz : pos = s.size
      · exact ⟨pos, by rw [if_pos hz], fun _ => he, fun h => absurd rfl h⟩
      · refine ⟨pos, ?_, fun _ => he, fun h => absurd rfl h⟩
        have hp1 := decode_pos s pos
        rw [if_neg hz, begRest_step s pos pos b (by omega), if_pos (Nat.le_refl _)]
        exact begFrom_far s pos _ _ _ (by omega)
    · have hps : pos < s.size := by omega
      have hb : lenB s pos ≠ 0 := fun h => by
        rw [badRest_bad s pos hps h] at hn
        cases hn
      have hd : (Utf8.decode s pos).2 = lenB s pos := by rw [decode_two, if_neg hb]
      have hin := decode_in s pos hps
      have h1 := decode_pos s pos
      rw [badRest_step s pos hps hb] at hn
      have hc : pos < (s.extract 0 k).size := by rw [cut_size s k hk]; omega
      by_cases hfit : pos + lenB s pos ≤ k
      · have e := cut_in s k hk pos hb hfit
        have hd2 : (Utf8.decode (s.extract 0 k) pos).2 = lenB s pos := by rw [decode_two, if_neg (by rw [e]; exact hb), e]
        obtain ⟨B, hB, h2, h3⟩ := ih (pos + (Utf8.decode s pos).2) pos hn (by omega) (by omega)
        refine ⟨B, ?_, fun h => ?_, fun h => ?_⟩
        · have e2 : begRest s k pos b = begRest s k (pos + (Utf8.decode s pos).2) pos := by rw [begRest_step s k pos b hps, if_pos (show pos ≤ k by omega)]
          rw [← hB, e2]
        · rw [badRest_step _ pos hc (by rw [e]; exact hb), hd2, ← hd]; exact h2 h
        · rw [badRest_step _ pos hc (by rw [e]; exact hb), hd2, ← hd]; exact h3 h
      · have hz : k ≠ s.size := by omega
        refine ⟨pos, ?_, fun h => absurd h hpk, fun _ => badRest_bad _ pos hc (cut_out s k hk pos (by omega) (by omega))⟩
        rw [if_neg hz, begRest_step s k pos b hps, if_pos (by omega)]
        exact begFrom_far s k _ _ _ (by omega)

/-- A text of one character is valid. -/
theorem one_valid (s : ByteArray) (h0 : s.size ≠ 0) (h : lenB s 0 = s.size) : badRest s 0 = Option.none := by
  have hb : lenB s 0 ≠ 0 := by omega
  rw [badRest_step s 0 (by omega) hb, decode_two, if_neg hb, h]
  exact badRest_end _ _ (by omega)
theorem encode_form (r : Int) : ∃ c : Nat, (c < 55296 ∨ (57344 ≤ c ∧ c ≤ 1114111)) ∧ Utf8.encode r = (if c < 128 then ⟨#[UInt8.ofNat c]⟩
    else if c < 2048 then ⟨#[UInt8.ofNat (192 + c / 64), UInt8.ofNat (128 + c % 64)]⟩
    else if c < 65536 then ⟨#[UInt8.ofNat (224 + c / 4096), UInt8.ofNat (128 + c / 64 % 64), UInt8.ofNat (128 + c % 64)]⟩
    else ⟨#[UInt8.ofNat (240 + c / 262144), UInt8.ofNat (128 + c / 4096 % 64), UInt8.ofNat (128 + c / 64 % 64), UInt8.ofNat (128 + c % 64)]⟩) := by
  refine ⟨if Utf8.valid r then r.toNat else Utf8.runeError, ?_, rfl⟩
  by_cases h : Utf8.valid r = true
  · rw [if_pos h]
    simp [Utf8.valid] at h
    omega
  · rw [if_neg h]
    exact Or.inr ⟨by decide, by decide⟩
theorem ofNat_lt {n : Nat} (h : n < 256) : (UInt8.ofNat n).toNat = n := by simp; omega
theorem encode_valid (r : Int) : badRest (Utf8.encode r) 0 = Option.none := by
  obtain ⟨c, hc, e⟩ := encode_form r
  rw [e]
  by_cases h1 : c < 128
  · rw [if_pos h1]
    refine one_valid _ (by show (1 : Nat) ≠ 0; decide) ?_
    have b0 : byt ⟨#[UInt8.ofNat c]⟩ 0 = c := by rw [byt_list]; exact ofNat_lt (by omega)
    rw [lenB_F, b0]
    unfold lenF
    rw [if_pos h1]; rfl
  rw [if_neg h1]
  by_cases h2 : c < 2048
  · rw [if_pos h2]
    generalize hs : (⟨#[UInt8.ofNat (192 + c / 64), UInt8.ofNat (128 + c % 64)]⟩ : ByteArray) = s
    have hz : s.size = 2 := by rw [← hs]; rfl
    have b0 : byt s 0 = 192 + c / 64 := by rw [← hs, byt_list]; exact ofNat_lt (by omega)
    have b1 : byt s (0 + 1) = 128 + c % 64 := by rw [← hs, byt_list]; exact ofNat_lt (by omega)
    have t1 : tailB s (0 + 1) = true := by unfold tailB; rw [b1, hz]; simp; omega
    refine one_valid s (by omega) ?_
    rw [lenB_F, b0, t1, hz]
    unfold lenF
    rw [if_neg (by omega), if_pos ⟨by omega, by omega, rfl⟩]
  rw [if_neg h2]
  by_cases h3 : c < 65536
  · rw [if_pos h3]
    generalize hs : (⟨#[UInt8.ofNat (224 + c / 4096), UInt8.ofNat (128 + c / 64 % 64), UInt8.ofNat (128 + c % 64)]⟩ : ByteArray) = s
    have hz : s.size = 3 := by rw [← hs]; rfl
    have b0 : byt s 0 = 224 + c / 4096 := by rw [← hs, byt_list]; exact ofNat_lt (by omega)
    have b1 : byt s (0 + 1) = 128 + c / 64 % 64 := by rw [← hs, byt_list]; exact ofNat_lt (by omega)
    have b2 : byt s (0 + 2) = 128 + c % 64 := by rw [← hs, byt_list]; exact ofNat_lt (by omega)
    have t1 : tailB s (0 + 1) = true := by unfold tailB; rw [b1, hz]; simp; omega
    have t2 : tailB s (0 + 2) = true := by unfold tailB; rw [b2, hz]; simp; omega
    refine one_valid s (by omega) ?_
    rw [lenB_F, b0, b1, t1, t2, hz]
    unfold lenF
    rw [if_neg (by omega), if_neg (by omega), if_pos ⟨by omega, by omega, rfl, rfl⟩, if_neg (by omega)]
  rw [if_neg h3]
  generalize hs : (⟨#[UInt8.ofNat (240 + c / 262144), UInt8.ofNat (128 + c / 4096 % 64), UInt8.ofNat (128 + c / 64 % 64), UInt8.ofNat (128 + c % 64)]⟩ : ByteArray) = s
  have hz : s.size = 4 := by rw [← hs]; rfl
  have b0 : byt s 0 = 240 + c / 262144 := by rw [← hs, byt_list]; exact ofNat_lt (by omega)
  have b1 : byt s (0 + 1) = 128 + c / 4096 % 64 := by rw [← hs, byt_list]; exact ofNat_lt (by omega)
  have b2 : byt s (0 + 2) = 128 + c / 64 % 64 := by rw [← hs, byt_list]; exact ofNat_lt (by omega)
  have b3 : byt s (0 + 3) = 128 + c % 64 := by rw [← hs, byt_list]; exact ofNat_lt (by omega)
  have t1 : tailB s (0 + 1) = true := by unfold tailB; rw [b1, hz]; simp; omega
  have t2 : tailB s (0 + 2) = true := by unfold tailB; rw [b2, hz]; simp; omega
  have t3 : tailB s (0 + 3) = true := by unfold tailB; rw [b3, hz]; simp; omega
  refine one_valid s (by omega) ?_
  rw [lenB_F, b0, b1, t1, t2, t3, hz]
  unfold lenF
  rw [if_neg (by omega), if_neg (by omega), if_neg (by omega), if_pos ⟨by omega, by omega, rfl, rfl, rfl⟩, if_neg (by omega)]
theorem fold_valid : ∀ (ns : List Int) (s : ByteArray), badRest s 0 = Option.none → badRest (ns.foldl (fun r n => r ++ Utf8.encode n) s) 0 = Option.none
  | [], _, h => h
  | n :: ns, s, h => fold_valid ns _ (by rw [app_bad s (Utf8.encode n) h, encode_valid n]; rfl)
/-- A text made of numbers is valid. -/
theorem runes_valid (ns : List Int) : badRest (runesBytes ns) 0 = Option.none := fold_valid ns _ (by rfl)
end Go.Proofs.YtidekaeccillhaaDoor
