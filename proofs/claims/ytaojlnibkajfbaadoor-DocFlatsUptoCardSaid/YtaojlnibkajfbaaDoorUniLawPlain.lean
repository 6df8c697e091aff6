/- What is no two things at once; texts joined. Plain Lean. -/
import Derived.Test.YtaojlnibkajfbaaDoorUniPlain2
import Derived.Test.YtaojlnibkajfbaaDoorNamePlain
import Derived.Test.YtaojlnibkajfbaaDoorUtfCut
namespace Go.Proofs.YtaojlnibkajfbaaDoor

theorem oneB_mem (r : Int) : ∀ xs : List Int, oneB r xs = true → r ∈ xs
  | [], h => by simp [oneB] at h
  | a :: t, h => by
    simp only [oneB, Bool.or_eq_true] at h
    rcases h with h | h
    · rw [eq_of_beq h]; simp
    · exact List.mem_cons_of_mem _ (oneB_mem r t h)
theorem ends_mem {r : Int} (h : endsB r = true) : r = 10 ∨ r = 13 ∨ r = 8232 ∨ r = 8233 := by
  have := oneB_mem r _ h
  simpa using this
theorem blank_mem {r : Int} (h : blankB r = true) : (r = 9 ∨ r = 11 ∨ r = 12 ∨ r = 32 ∨ r = 160 ∨ r = 5760 ∨ r = 8239 ∨ r = 8287 ∨ r = 12288 ∨ r = 65279) ∨ ∃ k : Nat, k < 11 ∧ r = 8192 + (k : Int) := by
  unfold blankB at h
  rw [Bool.or_eq_true] at h
  rcases h with h | h
  · have := oneB_mem r _ h
    left
    simpa using this
  · right
    have := inB_bounds 0x2000 0x200a r [0x2000, 0x200a] (by decide) h
    exact ⟨(r - 8192).toNat, by omega, by omega⟩
theorem ends_kind {r : Int} (h : endsB r = true) : partB r = false ∧ blankB r = false ∧ startB r = false ∧ 0 ≤ r ∧ r ≤ 0x10ffff := by
  rcases ends_mem h with rfl | rfl | rfl | rfl <;> decide
theorem blank_kind {r : Int} (h : blankB r = true) : partB r = false ∧ endsB r = false ∧ startB r = false ∧ 0 ≤ r ∧ r ≤ 0x10ffff := by
  rcases blank_mem h with h | ⟨k, hk, rfl⟩
  · rcases h with rfl | rfl | rfl | rfl | rfl | rfl | rfl | rfl | rfl | rfl <;> decide
  · have h1 : ∀ k : Nat, k < 11 → partB (8192 + (k : Int)) = false ∧ endsB (8192 + (k : Int)) = false ∧ startB (8192 + (k : Int)) = false := by decide
    obtain ⟨a, b, c⟩ := h1 k hk
    exact ⟨a, b, c, by omega, by omega⟩
theorem start_range {r : Int} (h : startB r = true) : 0 ≤ r ∧ r ≤ 0x10ffff := by
  unfold startB at h
  split at h
  · rw [Bool.or_eq_true] at h
    rcases h with h | h
    · have := oneB_mem r _ h
      simp at this
      omega
    · have := inB_bounds 65 122 r _ (by decide) h
      omega
  · rw [Bool.or_eq_true] at h
    rcases h with h | h
    · have := oneB_mem r _ h
      simp at this
      omega
    · have := inB_bounds 0xc0 0x2a6df r _ (by decide) h
      omega
theorem part_range {r : Int} (h : partB r = true) : 0 ≤ r ∧ r ≤ 0x10ffff := by
  unfold partB at h
  rw [Bool.or_eq_true] at h
  rcases h with h | h
  · exact start_range h
  · have := inB_bounds 48 0xff19 r _ (by decide) h
    omega

/-- Rows of letters. -/
theorem start_low {r : Int} (hr : r < 128) (h : inB r [65, 90, 97, 122] = true) : startB r = true := by
  unfold startB
  rw [if_pos hr, h]
  simp
theorem start_high {r : Int} (hr : ¬ r < 128) (h : inB r startRows = true) : startB r = true := by
  unfold startB
  rw [if_neg hr, h]
  simp

/-- A character is no wider than its bytes are many. -/
theorem cols_le (s : ByteArray) (pos : Nat) : colsB (Utf8.decode s pos).1 ≤ (Utf8.decode s pos).2 := by
  unfold colsB
  by_cases h : wideB (Utf8.decode s pos).1 = true
  · rw [if_pos h]
    have hw : (4352 : Int) ≤ (Utf8.decode s pos).1 := by
      rw [wideB, Bool.and_eq_true] at h
      exact of_decide_eq_true h.1
    rcases dec_cases s pos with ⟨_, e⟩ | ⟨_, hb, e⟩ | ⟨_, _, _, e⟩ | ⟨_, _, _, _, e⟩ | ⟨_, _, _, _, _, _, e⟩
    · rw [e] at h; exact absurd h (by decide)
    · rw [e] at hw; simp at hw; omega
    · rw [e]; exact Nat.le_refl 2
    · rw [e]; show 2 ≤ 3; omega
    · rw [e]; show 2 ≤ 4; omega
  · rw [if_neg h]
    exact decode_pos s pos
theorem widthFrom_size (s : ByteArray) : ∀ (f pos : Nat), pos ≤ s.size → widthFrom s f pos ≤ s.size - pos
  | 0, _, _ => Nat.zero_le _
  | f + 1, pos, hle => by
    simp only [widthFrom]
    by_cases h : pos < s.size
    · have hp := cols_le s pos
      have hi := decode_in s pos h
      have ih := widthFrom_size s f _ hi
      rw [if_pos h]
      omega
    · rw [if_neg h]; omega
theorem widthB_le (s : ByteArray) : widthB s ≤ s.size := widthFrom_size s _ 0 (Nat.zero_le _)

/-- A longer text leaves a whole character as it is. -/
theorem charF_ext {b0 b1 b2 b3 c1 c2 c3 : Nat} {t1 t2 t3 u1 u2 u3 : Bool} (h1 : t1 = true → u1 = true ∧ b1 = c1) (h2 : t2 = true → u2 = true ∧ b2 = c2) (h3 : t3 = true → u3 = true ∧ b3 = c3) (hL : lenF b0 b1 t1 t2 t3 ≠ 0) :
    decF b0 c1 c2 c3 u1 u2 u3 = decF b0 b1 b2 b3 t1 t2 t3 ∧ lenF b0 c1 u1 u2 u3 = lenF b0 b1 t1 t2 t3 := by
  by_cases k0 : b0 < 128
  · unfold decF lenF
    simp [k0]
  by_cases k1 : 194 ≤ b0 ∧ b0 < 224
  · have t1' : t1 = true := by
      cases t1
      · exfalso; apply hL; unfold lenF; rw [if_neg k0, if_neg (by simp), if_neg (by simp), if_neg (by simp)]
      · rfl
    obtain ⟨rfl, rfl⟩ := h1 t1'
    subst t1'
    have e : b0 / 32 = 6 := by omega
    unfold decF lenF
    simp [k0, k1, e]
  by_cases k2 : 224 ≤ b0 ∧ b0 < 240
  · have t1' : t1 = true := by
      cases t1
      · exfalso; apply hL; unfold lenF; rw [if_neg k0, if_neg (by simp), if_neg (by simp), if_neg (by simp)]
      · rfl
    have t2' : t2 = true := by
      cases t2
      · exfalso; apply hL; unfold lenF; rw [if_neg k0, if_neg (by omega), if_neg (by simp), if_neg (by simp)]
      · rfl
    obtain ⟨rfl, rfl⟩ := h1 t1'
    obtain ⟨rfl, rfl⟩ := h2 t2'
    subst t1' t2'
    have e : b0 / 32 ≠ 6 := by omega
    have e2 : b0 / 16 = 14 := by omega
    unfold decF lenF
    simp [k0, k1, k2, e, e2]
  by_cases k3 : 240 ≤ b0 ∧ b0 < 245
  · have t1' : t1 = true := by
      cases t1
      · exfalso; apply hL; unfold lenF; rw [if_neg k0, if_neg (by simp), if_neg (by simp), if_neg (by simp)]
      · rfl
    have t2' : t2 = true := by
      cases t2
      · exfalso; apply hL; unfold lenF; rw [if_neg k0, if_neg (by omega), if_neg (by simp), if_neg (by simp)]
      · rfl
    have t3' : t3 = true := by
      cases t3
      · exfalso; apply hL; unfold lenF; rw [if_neg k0, if_neg (by omega), if_neg (by omega), if_neg (by simp)]
      · rfl
    obtain ⟨rfl, rfl⟩ := h1 t1'
    obtain ⟨rfl, rfl⟩ := h2 t2'
    obtain ⟨rfl, rfl⟩ := h3 t3'
    subst t1' t2' t3'
    exact ⟨rfl, rfl⟩
  · exfalso
    apply hL
    unfold lenF
    rw [if_neg k0, if_neg (by omega), if_neg (by omega), if_neg (by omega)]

section
variable (s t : ByteArray)
theorem app_data : (s ++ t).data.toList = s.data.toList ++ t.data.toList := by simp
theorem app_size : (s ++ t).size = s.size + t.size := by rw [size_list, app_data, List.length_append, ← size_list, ← size_list]
theorem app_left (j : Nat) (h : j < s.size) : byt (s ++ t) j = byt s j := by
  rw [byt_list, byt_list, app_data, List.getElem?_append_left (by rw [← size_list]; exact h)]
theorem app_right (j : Nat) : byt (s ++ t) (s.size + j) = byt t j := by
  rw [byt_list, byt_list, app_data, List.getElem?_append_right (by rw [← size_list]; omega), ← size_list]
  congr 3
  omega
theorem app_tail_left (j : Nat) (h : tailB s j = true) : tailB (s ++ t) j = true ∧ byt s j = byt (s ++ t) j := by
  have hb := tailB_bd h
  refine ⟨?_, (app_left s t j hb.1).symm⟩
  unfold tailB
  rw [app_left s t j hb.1, app_size]
  simp
  omega
theorem app_tail_right (j : Nat) : tailB (s ++ t) (s.size + j) = tailB t j := by
  unfold tailB
  rw [app_right, app_size]
  have : (s.size + j < s.size + t.size) ↔ j < t.size := by omega
  simp [this]
theorem app_char_left (i : Nat) (h : i < s.size) (hL : lenB s i ≠ 0) : Utf8.decode (s ++ t) i = Utf8.decode s i ∧ lenB (s ++ t) i = lenB s i := by
  rw [lenB_F] at hL
  rw [decode_F, decode_F, lenB_F, lenB_F, app_left s t i h]
  exact charF_ext (app_tail_left s t _) (app_tail_left s t _) (app_tail_left s t _) hL
theorem app_char_right (i : Nat) : Utf8.decode (s ++ t) (s.size + i) = Utf8.decode t i ∧ lenB (s ++ t) (s.size + i) = lenB t i :=
  char_congr (app_right s t i) (fun k _ _ => by rw [Nat.add_assoc, app_tail_right]) (fun k _ _ _ => by rw [Nat.add_assoc, app_right])

theorem app_bad_right : ∀ (f i : Nat), badFrom (s ++ t) f (s.size + i) = (badFrom t f i).map (s.size + ·)
  | 0, _ => rfl
  | f + 1, i => by
    obtain ⟨e1, e2⟩ := app_char_right s t i
    simp only [badFrom]
    rw [app_size, e1, e2]
    by_cases h : i < t.size
    · rw [if_pos h, if_pos (by omega)]
      by_cases hb : lenB t i = 0
      · rw [if_pos hb, if_pos hb]; rfl
      · rw [if_neg hb, if_neg hb, Nat.add_assoc, app_bad_right f]
    · rw [if_neg h, if_neg (by omega)]; rfl
theorem app_bad_left : ∀ (f g i : Nat), i ≤ s.size → s.size ≤ i + f → badFrom s f i = Option.none → (s ++ t).size ≤ i + g → badFrom (s ++ t) g i = (badRest t 0).map (s.size + ·)
  | 0, g, i, hi, hf, _, hg => by
    have e : i = s.size + 0 := by omega
    rw [e, app_bad_right]
    rw [app_size] at hg
    unfold badRest
    rw [badFrom_fuel t g (t.size - 0) 0 (by omega) (by omega)]
  | f + 1, g, i, hi, hf, hn, hg => by
    by_cases h : i < s.size
    · simp only [badFrom] at hn
      rw [if_pos h] at hn
      by_cases hb : lenB s i = 0
      · rw [if_pos hb] at hn; cases hn
      · rw [if_neg hb] at hn
        obtain ⟨e1, e2⟩ := app_char_left s t i h hb
        have hp := decode_pos s i
        have hin := decode_in s i h
        obtain ⟨g', rfl⟩ : ∃ g', g = g' + 1 := ⟨g - 1, by rw [app_size] at hg; omega⟩
        simp only [badFrom]
        rw [if_pos (by rw [app_size]; omega), e2, if_neg hb, e1]
        exact app_bad_left f g' _ hin (by omega) hn (by omega)
    · have e : i = s.size + 0 := by omega
      rw [e, app_bad_right]
      rw [app_size] at hg
      unfold badRest
      rw [badFrom_fuel t g (t.size - 0) 0 (by omega) (by omega)]
theorem app_bad (h : badRest s 0 = Option.none) : badRest (s ++ t) 0 = (badRest t 0).map (s.size + ·) :=
  app_bad_left s t (s.size - 0) ((s ++ t).size - 0) 0 (Nat.zero_le _) (by omega) h (by omega)
theorem bad_lt : ∀ (f i p : Nat), badFrom s f i = some p → p < s.size
  | 0, _, _, h => by cases h
  | f + 1, i, p, h => by
    simp only [badFrom] at h
    by_cases hi : i < s.size
    · rw [if_pos hi] at h
      by_cases hb : lenB s i = 0
      · rw [if_pos hb] at h; injection h with h; omega
      · rw [if_neg hb] at h; exact bad_lt f _ p h
    · rw [if_neg hi] at h; cases h

theorem app_width_right : ∀ (f i : Nat), widthFrom (s ++ t) f (s.size + i) = widthFrom t f i
  | 0, _ => rfl
  | f + 1, i => by
    obtain ⟨e1, e2⟩ := app_char_right s t i
    simp only [widthFrom]
    rw [app_size, e1]
    by_cases h : i < t.size
    · rw [if_pos h, if_pos (by omega), Nat.add_assoc, app_width_right f]
    · rw [if_neg h, if_neg (by omega)]
theorem app_width_left : ∀ (f g i : Nat), i ≤ s.size → s.size ≤ i + f → badFrom s f i = Option.none → (s ++ t).size ≤ i + g → widthFrom (s ++ t) g i = widthFrom s f i + widthB t
  | 0, g, i, hi, hf, _, hg => by
    have e : i = s.size + 0 := by omega
    rw [e, app_width_right]
    rw [app_size] at hg
    unfold widthB widthRest
    rw [widthFrom_fuel t g (t.size - 0) 0 (by omega) (by omega)]
    simp [widthFrom]
  | f + 1, g, i, hi, hf, hn, hg => by
    by_cases h : i < s.size
    · simp only [badFrom] at hn
      rw [if_pos h] at hn
      by_cases hb : lenB s i = 0
      · rw [if_pos hb] at hn; cases hn
      · rw [if_neg hb] at hn
        obtain ⟨e1, e2⟩ := app_char_left s t i h hb
        have hp := decode_pos s i
        have hin := decode_in s i h
        obtain ⟨g', rfl⟩ : ∃ g', g = g' + 1 := ⟨g - 1, by rw [app_size] at hg; omega⟩
        simp only [widthFrom]
        rw [if_pos (by rw [app_size]; omega), if_pos h, e1, app_width_left f g' _ hin (by omega) hn (by omega), Nat.add_assoc]
    · have e : i = s.size + 0 := by omega
      rw [e, app_width_right]
      rw [app_size] at hg
      have e2 : widthFrom s (f + 1) (s.size + 0) = 0 := by
        simp only [widthFrom]
        rw [if_neg (by omega)]
      unfold widthB widthRest
      rw [widthFrom_fuel t g (t.size - 0) 0 (by omega) (by omega), e2, Nat.zero_add]
theorem app_width (h : badRest s 0 = Option.none) : widthB (s ++ t) = widthB s + widthB t :=
  app_width_left s t (s.size - 0) ((s ++ t).size - 0) 0 (Nat.zero_le _) (by omega) h (by omega)
end
end Go.Proofs.YtaojlnibkajfbaaDoor
