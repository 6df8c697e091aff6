/- A name, in plain Lean: every character may stand where it stands. -/
import Derived.Test.YthljgiimdcbfpaaDoorMGround
import Derived.Test.YthljgiimdcbfpaaDoorMDoA
namespace Go.Proofs.YthljgiimdcbfpaaDoor
section
/-- May the character that begins at this place stand there in a name? -/
def okAt (s : ByteArray) (pos : Nat) : Bool := partB (Utf8.decode s pos).1 && (decide (pos ≠ 0) || startB (Utf8.decode s pos).1)
/-- From a place on, at most so many characters. -/
def nameFrom (s : ByteArray) : Nat → Nat → Bool
  | 0, _ => true
  | f + 1, pos => if pos < s.size then okAt s pos && nameFrom s f (pos + (Utf8.decode s pos).2) else true
def nameB (s : ByteArray) : Bool := nameFrom s s.size 0 && decide (0 < s.size)

theorem partB_err : partB 65533 = false := by decide
theorem startB_part (r : Int) (h : startB r = true) : partB r = true := by unfold partB; rw [h]; rfl

/-- More fuel than bytes says no more. -/
theorem nameFrom_fuel (s : ByteArray) : ∀ (f g pos : Nat), s.size ≤ pos + f → s.size ≤ pos + g → nameFrom s f pos = nameFrom s g pos
  | 0, 0, _, _, _ => rfl
  | 0, g + 1, pos, h, _ => by
    have : ¬ pos < s.size := by omega
    simp [nameFrom, this]
  | f + 1, 0, pos, _, h => by
    have : ¬ pos < s.size := by omega
    simp [nameFrom, this]
  | f + 1, g + 1, pos, h, h' => by
    have hp := decode_pos s pos
    simp only [nameFrom]
    by_cases hlt : pos < s.size
    · rw [if_pos hlt, if_pos hlt, nameFrom_fuel s f g _ (by omega) (by omega)]
    · rw [if_neg hlt, if_neg hlt]
/-- The rest from a place on, fuel as many as bytes are left. -/
def nameRest (s : ByteArray) (pos : Nat) : Bool := nameFrom s (s.size - pos) pos
theorem nameRest_step (s : ByteArray) (pos : Nat) (h : pos < s.size) : nameRest s pos = (okAt s pos && nameRest s (pos + (Utf8.decode s pos).2)) := by
  have hp := decode_pos s pos
  have hi := decode_in s pos h
  unfold nameRest
  obtain ⟨f, hf⟩ : ∃ f, s.size - pos = f + 1 := ⟨s.size - pos - 1, by omega⟩
  rw [hf]
  show (if pos < s.size then _ else _) = _
  rw [if_pos h, nameFrom_fuel s f (s.size - (pos + (Utf8.decode s pos).2)) _ (by omega) (by omega)]
theorem nameRest_end (s : ByteArray) (pos : Nat) (h : ¬ pos < s.size) : nameRest s pos = true := by
  unfold nameRest
  have : s.size - pos = 0 := by omega
  rw [this]; rfl
theorem okAt_bad (s : ByteArray) (pos : Nat) (h : runeB s pos < 0) : okAt s pos = false := by
  have h0 : lenB s pos = 0 := by
    by_cases h1 : lenB s pos = 0
    · exact h1
    · unfold runeB at h
      rw [if_neg h1] at h
      omega
  unfold okAt
  rw [decode_bad s pos h0]
  show (partB 65533 && _) = false
  rw [partB_err]; rfl
theorem okAt_rune (s : ByteArray) (pos : Nat) (h : ¬ runeB s pos < 0) : okAt s pos = (partB (runeB s pos) && (decide (pos ≠ 0) || startB (runeB s pos))) := by
  unfold runeB at h ⊢
  by_cases h1 : lenB s pos = 0
  · rw [if_pos h1] at h; omega
  · rw [if_neg h1]; rfl
theorem runeB_le (s : ByteArray) (pos : Nat) : runeB s pos ≤ 2147483647 := by
  unfold runeB
  have := decode_le s pos
  split <;> omega
theorem nameB_rest (s : ByteArray) : nameB s = (nameRest s 0 && decide (0 < s.size)) := rfl
end

section
theorem oneB_mem (r : Int) : ∀ xs : List Int, oneB r xs = true → r ∈ xs
  | [], h => by simp [oneB] at h
  | a :: t, h => by
    simp only [oneB, Bool.or_eq_true] at h
    rcases h with h | h
    · rw [eq_of_beq h]; simp
    · exact List.mem_cons_of_mem _ (oneB_mem r t h)
theorem ends_mem {r : Int} (h : endsB r = true) : r = 10 ∨ r = 13 ∨ r = 8232 ∨ r = 8233 := by
  have := oneB_mem r _ h
  simpa using this
theorem blank_mem {r : Int} (h : blankB r = true) : (r = 9 ∨ r = 11 ∨ r = 12 ∨ r = 32 ∨ r = 160 ∨ r = 5760 ∨ r = 8239 ∨ r = 8287 ∨ r = 12288 ∨ r = 65279) ∨ ∃ k : Nat, k < 11 ∧ r = 8192 + (k : Int) := by
  unfold blankB at h
  rw [Bool.or_eq_true] at h
  rcases h with h | h
  · have := oneB_mem r _ h
    left
    simpa using this
  · right
    have := inB_bounds 0x2000 0x200a r [0x2000, 0x200a] (by decide) h
    exact ⟨(r - 8192).toNat, by omega, by omega⟩
theorem ends_kind {r : Int} (h : endsB r = true) : partB r = false ∧ blankB r = false ∧ startB r = false ∧ 0 ≤ r ∧ r ≤ 0x10ffff := by
  rcases ends_mem h with rfl | rfl | rfl | rfl <;> decide
theorem blank_kind {r : Int} (h : blankB r = true) : partB r = false ∧ endsB r = false ∧ startB r = false ∧ 0 ≤ r ∧ r ≤ 0x10ffff := by
  rcases blank_mem h with h | ⟨k, hk, rfl⟩
  · rcases h with rfl | rfl | rfl | rfl | rfl | rfl | rfl | rfl | rfl | rfl <;> decide
  · have h1 : ∀ k : Nat, k < 11 → partB (8192 + (k : Int)) = false ∧ endsB (8192 + (k : Int)) = false ∧ startB (8192 + (k : Int)) = false := by decide
    obtain ⟨a, b, c⟩ := h1 k hk
    exact ⟨a, b, c, by omega, by omega⟩
theorem start_range {r : Int} (h : startB r = true) : 0 ≤ r ∧ r ≤ 0x10ffff := by
  unfold startB at h
  split at h
  · rw [Bool.or_eq_true] at h
    rcases h with h | h
    · have := oneB_mem r _ h
      simp at this
      omega
    · have := inB_bounds 65 122 r _ (by decide) h
      omega
  · rw [Bool.or_eq_true] at h
    rcases h with h | h
    · have := oneB_mem r _ h
      simp at this
      omega
    · have := inB_bounds 0xc0 0x2a6df r _ (by decide) h
      omega
theorem part_range {r : Int} (h : partB r = true) : 0 ≤ r ∧ r ≤ 0x10ffff := by
  unfold partB at h
  rw [Bool.or_eq_true] at h
  rcases h with h | h
  · exact start_range h
  · have := inB_bounds 48 0xff19 r _ (by decide) h
    omega

/-- Rows of letters. -/
theorem start_low {r : Int} (hr : r < 128) (h : inB r [65, 90, 97, 122] = true) : startB r = true := by
  unfold startB
  rw [if_pos hr, h]
  simp
theorem start_high {r : Int} (hr : ¬ r < 128) (h : inB r startRows = true) : startB r = true := by
  unfold startB
  rw [if_neg hr, h]
  simp

/-- A character is no wider than its bytes are many. -/
theorem cols_le (s : ByteArray) (pos : Nat) : colsB (Utf8.decode s pos).1 ≤ (Utf8.decode s pos).2 := by
  unfold colsB
  by_cases h : wideB (Utf8.decode s pos).1 = true
  · rw [if_pos h]
    have hw : (4352 : Int) ≤ (Utf8.decode s pos).1 := by
      rw [wideB, Bool.and_eq_true] at h
      exact of_decide_eq_true h.1
    rcases dec_cases s pos with ⟨_, e⟩ | ⟨_, hb, e⟩ | ⟨_, _, _, e⟩ | ⟨_, _, _, _, e⟩ | ⟨_, _, _, _, _, _, e⟩
    · rw [e] at h; exact absurd h (by decide)
    · rw [e] at hw; simp at hw; omega
    · rw [e]; exact Nat.le_refl 2
    · rw [e]; show 2 ≤ 3; omega
    · rw [e]; show 2 ≤ 4; omega
  · rw [if_neg h]
    exact decode_pos s pos
theorem widthFrom_size (s : ByteArray) : ∀ (f pos : Nat), pos ≤ s.size → widthFrom s f pos ≤ s.size - pos
  | 0, _, _ => Nat.zero_le _
  | f + 1, pos, hle => by
    simp only [widthFrom]
    by_cases h : pos < s.size
    · have hp := cols_le s pos
      have hi := decode_in s pos h
      have ih := widthFrom_size s f _ hi
      rw [if_pos h]
      omega
    · rw [if_neg h]; omega
theorem widthB_le (s : ByteArray) : widthB s ≤ s.size := widthFrom_size s _ 0 (Nat.zero_le _)

/-- A longer text leaves a whole character as it is. -/
theorem charF_ext {b0 b1 b2 b3 c1 c2 c3 : Nat} {t1 t2 t3 u1 u2 u3 : Bool} (h1 : t1 = true → u1 = true ∧ b1 = c1) (h2 : t2 = true → u2 = true ∧ b2 = c2) (h3 : t3 = true → u3 = true ∧ b3 = c3) (hL : lenF b0 b1 t1 t2 t3 ≠ 0) :
    decF b0 c1 c2 c3 u1 u2 u3 = decF b0 b1 b2 b3 t1 t2 t3 ∧ lenF b0 c1 u1 u2 u3 = lenF b0 b1 t1 t2 t3 := by
  by_cases k0 : b0 < 128
  · unfold decF lenF
    simp [k0]
  by_cases k1 : 194 ≤ b0 ∧ b0 < 224
  · have t1' : t1 = true := by
      cases t1
      · exfalso; apply hL; unfold lenF; rw [if_neg k0, if_neg (by simp), if_neg (by simp), if_neg (by simp)]
      · rfl
    obtain ⟨rfl, rfl⟩ := h1 t1'
    subst t1'
    have e : b0 / 32 = 6 := by omega
    unfold decF lenF
    simp [k0, k1, e]
  by_cases k2 : 224 ≤ b0 ∧ b0 < 240
  · have t1' : t1 = true := by
      cases t1
      · exfalso; apply hL; unfold lenF; rw [if_neg k0, if_neg (by simp), if_neg (by simp), if_neg (by simp)]
      · rfl
    have t2' : t2 = true := by
      cases t2
      · exfalso; apply hL; unfold lenF; rw [if_neg k0, if_neg (by omega), if_neg (by simp), if_neg (by simp)]
      · rfl
    obtain ⟨rfl, rfl⟩ := h1 t1'
    obtain ⟨rfl, rfl⟩ := h2 t2'
    subst t1' t2'
    have e : b0 / 32 ≠ 6 := by omega
    have e2 : b0 / 16 = 14 := by omega
    unfold decF lenF
    simp [k0, k1, k2, e, e2]
  by_cases k3 : 240 ≤ b0 ∧ b0 < 245
  · have t1' : t1 = true := by
      cases t1
      · exfalso; apply hL; unfold lenF; rw [if_neg k0, if_neg (by simp), if_neg (by simp), if_neg (by simp)]
      · rfl
    have t2' : t2 = true := by
      cases t2
      · exfalso; apply hL; unfold lenF; rw [if_neg k0, if_neg (by omega), if_neg (by simp), if_neg (by simp)]
      · rfl
    have t3' : t3 = true := by
      cases t3
      · exfalso; apply hL; unfold lenF; rw [if_neg k0, if_neg (by omega), if_neg (by omega), if_neg (by simp)]
      · rfl
    obtain ⟨rfl, rfl⟩ := h1 t1'
    obtain ⟨rfl, rfl⟩ := h2 t2'
    obtain ⟨rfl, rfl⟩ := h3 t3'
    subst t1' t2' t3'
    exact ⟨rfl, rfl⟩
  · exfalso
    apply hL
    unfold lenF
    rw [if_neg k0, if_neg (by omega), if_neg (by omega), if_neg (by omega)]

section
variable (s t : ByteArray)
theorem app_data : (s ++ t).data.toList = s.data.toList ++ t.data.toList := by simp
theorem app_size : (s ++ t).size = s.size + t.size := by rw [size_list, app_data, List.length_append, ← size_list, ← size_list]
theorem app_left (j : Nat) (h : j < s.size) : byt (s ++ t) j = byt s j := by
  rw [byt_list, byt_list, app_data, List.getElem?_append_left (by rw [← size_list]; exact h)]
theorem app_right (j : Nat) : byt (s ++ t) (s.size + j) = byt t j := by
  rw [byt_list, byt_list, app_data, List.getElem?_append_right (by rw [← size_list]; omega), ← size_list]
  congr 3
  omega
theorem app_tail_left (j : Nat) (h : tailB s j = true) : tailB (s ++ t) j = true ∧ byt s j = byt (s ++ t) j := by
  have hb := tailB_bd h
  refine ⟨?_, (app_left s t j hb.1).symm⟩
  unfold tailB
  rw [app_left s t j hb.1, app_size]
  simp
  omega
theorem app_tail_right (j : Nat) : tailB (s ++ t) (s.size + j) = tailB t j := by
  unfold tailB
  rw [app_right, app_size]
  have : (s.size + j < s.size + t.size) ↔ j < t.size := by omega
  simp [this]
theorem app_char_left (i : Nat) (h : i < s.size) (hL : lenB s i ≠ 0) : Utf8.decode (s ++ t) i = Utf8.decode s i ∧ lenB (s ++ t) i = lenB s i := by
  rw [lenB_F] at hL
  rw [decode_F, decode_F, lenB_F, lenB_F, app_left s t i h]
  exact charF_ext (app_tail_left s t _) (app_tail_left s t _) (app_tail_left s t _) hL
theorem app_char_right (i : Nat) : Utf8.decode (s ++ t) (s.size + i) = Utf8.decode t i ∧ lenB (s ++ t) (s.size + i) = lenB t i :=
  char_congr (app_right s t i) (fun k _ _ => by rw [Nat.add_assoc, app_tail_right]) (fun k _ _ _ => by rw [Nat.add_assoc, app_right])

theorem app_bad_right : ∀ (f i : Nat), badFrom (s ++ t) f (s.size + i) = (badFrom t f i).map (s.size + ·)
  | 0, _ => rfl
  | f + 1, i => by
    obtain ⟨e1, e2⟩ := app_char_right s t i
    simp only [badFrom]
    rw [app_size, e1, e2]
    by_cases h : i < t.size
    · rw [if_pos h, if_pos (by omega)]
      by_cases hb : lenB t i = 0
      · rw [if_pos hb, if_pos hb]; rfl
      · rw [if_neg hb, if_neg hb, Nat.add_assoc, app_bad_right f]
    · rw [if_neg h, if_neg (by omega)]; rfl
theorem app_bad_left : ∀ (f g i : Nat), i ≤ s.size → s.size ≤ i + f → badFrom s f i = Option.none → (s ++ t).size ≤ i + g → badFrom (s ++ t) g i = (badRest t 0).map (s.size + ·)
  | 0, g, i, hi, hf, _, hg => by
    have e : i = s.size + 0 := by omega
    rw [e, app_bad_right]
    rw [app_size] at hg
    unfold badRest
    rw [badFrom_fuel t g (t.size - 0) 0 (by omega) (by omega)]
  | f + 1, g, i, hi, hf, hn, hg => by
    by_cases h : i < s.size
    · simp only [badFrom] at hn
      rw [if_pos h] at hn
      by_cases hb : lenB s i = 0
      · rw [if_pos hb] at hn; cases hn
      · rw [if_neg hb] at hn
        obtain ⟨e1, e2⟩ := app_char_left s t i h hb
        have hp := decode_pos s i
        have hin := decode_in s i h
        obtain ⟨g', rfl⟩ : ∃ g', g = g' + 1 := ⟨g - 1, by rw [app_size] at hg; omega⟩
        simp only [badFrom]
        rw [if_pos (by rw [app_size]; omega), e2, if_neg hb, e1]
        exact app_bad_left f g' _ hin (by omega) hn (by omega)
    · have e : i = s.size + 0 := by omega
      rw [e, app_bad_right]
      rw [app_size] at hg
      unfold badRest
      rw [badFrom_fuel t g (t.size - 0) 0 (by omega) (by omega)]
theorem app_bad (h : badRest s 0 = Option.none) : badRest (s ++ t) 0 = (badRest t 0).map (s.size + ·) :=
  app_bad_left s t (s.size - 0) ((s ++ t).size - 0) 0 (Nat.zero_le _) (by omega) h (by omega)
theorem bad_lt : ∀ (f i p : Nat), badFrom s f i = some p → p < s.size
  | 0, _, _, h => by cases h
  | f + 1, i, p, h => by
    simp only [badFrom] at h
    by_cases hi : i < s.size
    · rw [if_pos hi] at h
      by_cases hb : lenB s i = 0
      · rw [if_pos hb] at h; injection h with h; omega
      · rw [if_neg hb] at h; exact bad_lt f _ p h
    · rw [if_neg hi] at h; cases h

theorem app_width_right : ∀ (f i : Nat), widthFrom (s ++ t) f (s.size + i) = widthFrom t f i
  | 0, _ => rfl
  | f + 1, i => by
    obtain ⟨e1, e2⟩ := app_char_right s t i
    simp only [widthFrom]
    rw [app_size, e1]
    by_cases h : i < t.size
    · rw [if_pos h, if_pos (by omega), Nat.add_assoc, app_width_right f]
    · rw [if_neg h, if_neg (by omega)]
theorem app_width_left : ∀ (f g i : Nat), i ≤ s.size → s.size ≤ i + f → badFrom s f i = Option.none → (s ++ t).size ≤ i + g → widthFrom (s ++ t) g i = widthFrom s f i + widthB t
  | 0, g, i, hi, hf, _, hg => by
    have e : i = s.size + 0 := by omega
    rw [e, app_width_right]
    rw [app_size] at hg
    unfold widthB widthRest
    rw [widthFrom_fuel t g (t.size - 0) 0 (by omega) (by omega)]
    simp [widthFrom]
  | f + 1, g, i, hi, hf, hn, hg => by
    by_cases h : i < s.size
    · simp only [badFrom] at hn
      rw [if_pos h] at hn
      by_cases hb : lenB s i = 0
      · rw [if_pos hb] at hn; cases hn
      · rw [if_neg hb] at hn
        obtain ⟨e1, e2⟩ := app_char_left s t i h hb
        have hp := decode_pos s i
        have hin := decode_in s i h
        obtain ⟨g', rfl⟩ : ∃ g', g = g' + 1 := ⟨g - 1, by rw [app_size] at hg; omega⟩
        simp only [widthFrom]
        rw [if_pos (by rw [app_size]; omega), if_pos h, e1, app_width_left f g' _ hin (by omega) hn (by omega), Nat.add_assoc]
    · have e : i = s.size + 0 := by omega
      rw [e, app_width_right]
      rw [app_size] at hg
      have e2 : widthFrom s (f + 1) (s.size + 0) = 0 := by
        simp only [widthFrom]
        rw [if_neg (by omega)]
      unfold widthB widthRest
      rw [widthFrom_fuel t g (t.size - 0) 0 (by omega) (by omega), e2, Nat.zero_add]
theorem app_width (h : badRest s 0 = Option.none) : widthB (s ++ t) = widthB s + widthB t :=
  app_width_left s t (s.size - 0) ((s ++ t).size - 0) 0 (Nat.zero_le _) (by omega) h (by omega)
end
end

section
open Go.RowKit
set_option maxRecDepth 100000
set_option linter.unusedVariables false
set_option linter.unusedSimpArgs false

theorem col_put {s s9 : MS} {l : Ln} {m1 : Mach} (hl : putM s.mach l = some m1) (m9 : s9.mach = m1) : s9.col = s.col := by
  unfold putM at hl
  split at hl
  · cases hl
  · injection hl with hl
    rw [← hl] at m9
    exact congrArg Mach.col m9

set_option maxHeartbeats 16000000 in
theorem do_line {B0 b mb : Nat} {ov : OptV} {s : MS} {w : World} (h : MAt B0 b mb ov s w) {ind : Ind} {p : Option Addr} (hi : IndAt w (s.F b mb w) ind p) (flat : Bool) {d : Doc} {a : Addr} (hd : DocAt w B0 (s.F b mb w) d a) (hok : CmOk ind d) (hk : d.kind = 3) (hw : s.weight + d.wt ≤ 8388608) (hcol : s.col ≤ 1000000000000 + (s.out.length : Int)) :
    Calls Tryd.prog 37 #[.pointer (some ⟨b, 0, none⟩), .agg #[.pointer p, .bool flat, .pointer (some a)]] w fun e w' => Ends B0 b mb ov s w (doM ov.o s.mach ⟨ind, flat, d⟩) e w' := by
  obtain ⟨g, off, kv, rfl, hFg, h6, hkv⟩ := hd
  obtain ⟨A, cap, hkvs⟩ := hkv.slice
  rw [hkvs] at hkv
  obtain ⟨hn0, hnc, kg, koff, hA, hds⟩ := docs_kids h hkv
  have hnl := kids_len_bulk hok.bulk
  have hbW : Below w.heap.size w (w.alloc (.cells #[.pointer p, .bool flat, .pointer (some ⟨g, off, none⟩)] 69)) := (Below.refl _ w).alloc (Nat.le_refl _) _
  have hcW : Blk (w.alloc (.cells #[.pointer p, .bool flat, .pointer (some ⟨g, off, none⟩)] 69)) w.heap.size [.pointer p, .bool flat, .pointer (some ⟨g, off, none⟩)] 69 := Blk.new' (W := w) _ _ rfl
  obtain ⟨W, hW⟩ : ∃ W, W = w.alloc (.cells #[.pointer p, .bool flat, .pointer (some ⟨g, off, none⟩)] 69) := ⟨_, rfl⟩
  rw [← hW] at hbW hcW
  have hgl : g < w.heap.size := hFg.1
  have k0 := (hbW.cell (p := ⟨g, off, none⟩) hgl).trans h6.kind
  have k2 := (hbW.cell (p := ⟨g, off + 2, none⟩) hgl).trans h6.kids
  rw [hk] at k0
  rw [hkvs] at k2
  have HFA : Hid (FAt B0 b mb ov s w p s W) := Lib.hid { m := h.below hbW, g := Goes.of_below hbW, x := hcW.cell 0, lt := hcW.lt, nx := fun hx => by have := h.X_lt hx; omega }
  have x0 := hcW.cell 0
  have x1 := hcW.cell 1
  have x2 := hcW.cell 2
  simp only [List.getElem?_cons_zero, List.getElem?_cons_succ] at x0 x1 x2
  have hWs := hcW.lt
  have HWW := Lib.hid hW
  have HM := Lib.hid h
  have HI := Lib.hid hi
  have HOK := Lib.hid hok
  have HDS := Lib.hid hds
  have HBW := Lib.hid hbW
  have HWT := Lib.hid hw
  have HK := Lib.hid hk
  have HA := Lib.hid hA
  have HFG := Lib.hid hFg
  have hdd : DocAt w B0 (s.F b mb w) d ⟨g, off, none⟩ := ⟨g, off, _, rfl, hFg, h6, by rw [hkvs]; exact hkv⟩
  have HDD := Lib.hid hdd
  clear hdd
  have HRF : Hid (doM ov.o s.mach ⟨ind, flat, d⟩ = if flat then (putM s.mach [32]).map fun m1 => { m1 with col := m1.col + 1 } else lineM ov.o s.mach (Cm.cmd ⟨ind, flat, d, p, ⟨g, off, none⟩⟩)) := Lib.hid (by
    cases d
    simp only [Doc.kind] at hk
    subst hk
    rfl)
  have HCL := Lib.hid hcol
  clear h hcol hi hok hds hbW hW hw hcW h6 hkv hFg hkvs hA hn0 hk hnc
  cases flat
  · have HR : Hid (doM ov.o s.mach ⟨ind, false, d⟩ = lineM ov.o s.mach (Cm.cmd ⟨ind, false, d, p, ⟨g, off, none⟩⟩)) := Lib.hid HRF.out
    have HF := Lib.hid (line_is HFA.out.m ⟨ind, false, d, p, ⟨g, off, none⟩⟩ ⟨HOK.out, HFA.out.g.ind HI.out, HM.out.doc_goes HFA.out.g HDD.out⟩ HWT.out)
    go_enter Tryd.func37, Tryd.ntmps37
    go_upto_region 1 with fail
    rw [← HWW.out]
    go_wp2_with fail
    refine HF.out.mono ?_
    intro e w9 he
    have HE := Lib.hid he
    clear he
    cases hl : lineM ov.o s.mach (Cm.cmd ⟨ind, false, d, p, ⟨g, off, none⟩⟩) with
    | none =>
      obtain ⟨rfl, hfr⟩ := ends_none HE.out hl
      refine ⟨rfl, ?_⟩
      rw [HR.out, hl]
      exact ⟨rfl, ends_long HFA.out.g hfr⟩
    | some m1 =>
      obtain ⟨rfl, s9, m9, a9, g9⟩ := ends_some HE.out hl
      have HLM := Lib.hid hl
      have HM9 := Lib.hid m9
      have HA9 := Lib.hid a9
      have HG9 := Lib.hid (HFA.out.g.trans g9)
      clear m9 a9 g9 hl
      go_wp2_with fail
      go_end0
      rw [HR.out, HLM.out]
      exact ⟨rfl, s9, HM9.out, HA9.out, HG9.out⟩
  · have HR : Hid (doM ov.o s.mach ⟨ind, true, d⟩ = (putM s.mach [32]).map fun m1 => { m1 with col := m1.col + 1 }) := Lib.hid HRF.out
    have HWR := Lib.hid (write_is HFA.out.m ⟨#[32]⟩ (by decide))
    rw [show (⟨#[32]⟩ : ByteArray).data.toList = [32] from rfl] at HWR
    go_enter Tryd.func37, Tryd.ntmps37
    go_upto_region 1 with fail
    rw [← HWW.out]
    go_wp2_with fail
    refine HWR.out.mono ?_
    intro e w9 he
    have HE := Lib.hid he
    clear he
    cases hl : putM s.mach [32] with
    | none =>
      obtain ⟨rfl, hfr⟩ := ends_none HE.out hl
      refine ⟨rfl, ?_⟩
      rw [HR.out, hl]
      exact ⟨rfl, ends_long HFA.out.g hfr⟩
    | some m1 =>
      obtain ⟨rfl, s9, m9, a9, g9⟩ := ends_some HE.out hl
      have hcc : s9.col = s.col := col_put hl m9
      have hc0 := a9.col0
      have hc1 : s9.col ≤ 1500000000000 := by have := HCL.out; have := HM.out.len; omega
      have hset := a9.setCol (s9.col + 1) (by omega) (by omega)
      have c10 := a9.cells.2.2.2.2.1
      have f10 := a9.blk.frozen 10
      have hw1 : IntKind.i64.wrap (s9.col + 1) = s9.col + 1 := by rw [IntKind.wrap_i64]; omega
      have HLM := Lib.hid hl
      have HM9 := Lib.hid m9
      have HS := Lib.hid hset
      have HG := Lib.hid ((HFA.out.g.trans g9).trans hset.2)
      clear m9 a9 g9 hl hset hcc hc0 hc1
      go_wp2_with fail
      go_end0
      rw [HR.out, HLM.out]
      exact ⟨rfl, _, by rw [← HM9.out]; rfl, HS.out.1, HG.out⟩

theorem hard_at {W : World} {B0 : Nat} {F : Nat → Prop} {gb : Nat} (hF : F gb) (hb : Blk W gb [.int .i64 5, .string ⟨#[]⟩, .slice none 0 0, .bool false, .int .i64 0, .int .i64 0] 24) : DocAt W B0 F hardDoc ⟨gb, 0, none⟩ := by
  refine ⟨gb, 0, .slice none 0 0, rfl, hF, ⟨hb.cell 0, hb.cell 1, hb.cell 2, hb.cell 3, hb.cell 4, hb.cell 5⟩, ?_⟩
  rw [KV_iff]
  exact ⟨none, 0, rfl, Nat.le_refl _, fun h => absurd h (by decide)⟩
theorem hard_ok {i : Ind} {d : Doc} (h : CmOk i d) : CmOk i hardDoc := by
  have h1 := h.wide
  rw [Doc.depth_eq] at h1
  refine { shape := by decide +kernel, bulk := by decide +kernel, ind := h.ind, wide := ?_ }
  have : hardDoc.depth = 1 := by decide +kernel
  rw [this]
  omega

set_option maxHeartbeats 16000000 in
theorem do_boundary {B0 b mb : Nat} {ov : OptV} {s : MS} {w : World} (h : MAt B0 b mb ov s w) {ind : Ind} {p : Option Addr} (hi : IndAt w (s.F b mb w) ind p) (flat : Bool) {d : Doc} {a : Addr} (hd : DocAt w B0 (s.F b mb w) d a) (hok : CmOk ind d) (hk : d.kind = 15) (hw : s.weight + d.wt ≤ 8388608) :
    Calls Tryd.prog 37 #[.pointer (some ⟨b, 0, none⟩), .agg #[.pointer p, .bool flat, .pointer (some a)]] w fun e w' => Ends B0 b mb ov s w (doM ov.o s.mach ⟨ind, flat, d⟩) e w' := by
  obtain ⟨g, off, kv, rfl, hFg, h6, hkv⟩ := hd
  obtain ⟨A, cap, hkvs⟩ := hkv.slice
  rw [hkvs] at hkv
  obtain ⟨hn0, hnc, kg, koff, hA, hds⟩ := docs_kids h hkv
  have hnl := kids_len_bulk hok.bulk
  have hbW : Below w.heap.size w (w.alloc (.cells #[.pointer p, .bool flat, .pointer (some ⟨g, off, none⟩)] 69)) := (Below.refl _ w).alloc (Nat.le_refl _) _
  have hcW : Blk (w.alloc (.cells #[.pointer p, .bool flat, .pointer (some ⟨g, off, none⟩)] 69)) w.heap.size [.pointer p, .bool flat, .pointer (some ⟨g, off, none⟩)] 69 := Blk.new' (W := w) _ _ rfl
  obtain ⟨W, hW⟩ : ∃ W, W = w.alloc (.cells #[.pointer p, .bool flat, .pointer (some ⟨g, off, none⟩)] 69) := ⟨_, rfl⟩
  rw [← hW] at hbW hcW
  have hgl : g < w.heap.size := hFg.1
  have k0 := (hbW.cell (p := ⟨g, off, none⟩) hgl).trans h6.kind
  have k2 := (hbW.cell (p := ⟨g, off + 2, none⟩) hgl).trans h6.kids
  rw [hk] at k0
  rw [hkvs] at k2
  have HFA : Hid (FAt B0 b mb ov s w p s W) := Lib.hid { m := h.below hbW, g := Goes.of_below hbW, x := hcW.cell 0, lt := hcW.lt, nx := fun hx => by have := h.X_lt hx; omega }
  have x0 := hcW.cell 0
  have x1 := hcW.cell 1
  have x2 := hcW.cell 2
  simp only [List.getElem?_cons_zero, List.getElem?_cons_succ] at x0 x1 x2
  have hWs := hcW.lt
  have HWW := Lib.hid hW
  have HM := Lib.hid h
  have HI := Lib.hid hi
  have HOK := Lib.hid hok
  have HDS := Lib.hid hds
  have HBW := Lib.hid hbW
  have HWT := Lib.hid hw
  have HK := Lib.hid hk
  have HA := Lib.hid hA
  have HFG := Lib.hid hFg
  have HRF : Hid (doM ov.o s.mach ⟨ind, flat, d⟩ = if s.mach.put ≠ [] then lineM ov.o s.mach ⟨ind, flat, hardDoc⟩ else some s.mach) := Lib.hid (by
    cases d
    simp only [Doc.kind] at hk
    subst hk
    rfl)
  have c12 := HFA.out.m.cells.2.2.2.2.2.2.1
  obtain ⟨A9, n9, hvp⟩ := own_slice h.put
  rw [hvp] at c12
  have hpl := stk_len h
  have HWP : Hid (1 ≤ d.wt) := Lib.hid (by have := d.nodes_pos; unfold Doc.wt; omega)
  clear h hvp hi hok hds hbW hW hw hcW h6 hkv hFg hkvs hA hn0 hk hnc
  by_cases hp : s.put = []
  · have HR : Hid (doM ov.o s.mach ⟨ind, flat, d⟩ = some s.mach) := Lib.hid (by rw [HRF.out, if_neg (by unfold MS.mach; simp [hp])])
    rw [hp] at c12
    clear hp
    go_enter Tryd.func37, Tryd.ntmps37
    go_upto_region 1 with fail
    rw [← HWW.out]
    go_wp2_with fail
    go_end0
    rw [HR.out]
    exact ⟨rfl, s, rfl, HFA.out.m, HFA.out.g⟩
  · have HR : Hid (doM ov.o s.mach ⟨ind, flat, d⟩ = lineM ov.o s.mach (Cm.cmd ⟨ind, flat, hardDoc, p, ⟨W.heap.size, 0, none⟩⟩)) := Lib.hid (by rw [HRF.out, if_pos (by unfold MS.mach; simp [hp])]; rfl)
    obtain ⟨m, hm⟩ : ∃ m, s.put.length = m + 1 := ⟨s.put.length - 1, by have : s.put.length ≠ 0 := fun e => hp (List.length_eq_zero_iff.1 e); omega⟩
    rw [hm] at c12
    clear hp
    have hp1 : (0 : Int) < ((m + 1 : Nat) : Int) := by omega
    have hbV : Below W.heap.size W (W.alloc (.cells #[.int .i64 5, .string ⟨#[]⟩, .slice none 0 0, .bool false, .int .i64 0, .int .i64 0] 24)) := (Below.refl _ W).alloc (Nat.le_refl _) _
    have HFV := Lib.hid (HFA.out.next hbV)
    have hkV : Blk (W.alloc (.cells #[.int .i64 5, .string ⟨#[]⟩, .slice none 0 0, .bool false, .int .i64 0, .int .i64 0] 24)) W.heap.size [.int .i64 5, .string ⟨#[]⟩, .slice none 0 0, .bool false, .int .i64 0, .int .i64 0] 24 := Blk.new' (W := W) _ _ rfl
    have HF := Lib.hid (line_is HFV.out.m ⟨ind, flat, hardDoc, p, ⟨W.heap.size, 0, none⟩⟩ ⟨hard_ok HOK.out, HFV.out.g.ind HI.out, hard_at ⟨hkV.lt, fun hx => by have := HFA.out.m.X_lt hx; omega⟩ hkV⟩ (by have := HWT.out; have := HWP.out; have hh1 : hardDoc.wt = 1 := (by decide +kernel); show s.weight + hardDoc.wt ≤ 8388608; omega))
    unfold Cm.val at HF
    clear hbV hkV
    go_enter Tryd.func37, Tryd.ntmps37
    go_upto_region 1 with fail
    rw [← HWW.out]
    go_wp2_with fail
    refine HF.out.mono ?_
    intro e w9 he
    have HE := Lib.hid he
    clear he
    cases hl : lineM ov.o s.mach (Cm.cmd ⟨ind, flat, hardDoc, p, ⟨W.heap.size, 0, none⟩⟩) with
    | none =>
      obtain ⟨rfl, hfr⟩ := ends_none HE.out hl
      refine ⟨rfl, ?_⟩
      rw [HR.out, hl]
      exact ⟨rfl, ends_long HFV.out.g hfr⟩
    | some m1 =>
      obtain ⟨rfl, s9, m9, a9, g9⟩ := ends_some HE.out hl
      have HLM := Lib.hid hl
      have HM9 := Lib.hid m9
      have HA9 := Lib.hid a9
      have HG9 := Lib.hid (HFV.out.g.trans g9)
      clear m9 a9 g9 hl
      go_wp2_with fail
      go_end0
      rw [HR.out, HLM.out]
      exact ⟨rfl, s9, HM9.out, HA9.out, HG9.out⟩

set_option maxHeartbeats 16000000 in
theorem do_text {B0 b mb : Nat} {ov : OptV} {s : MS} {w : World} (h : MAt B0 b mb ov s w) {ind : Ind} {p : Option Addr} (hi : IndAt w (s.F b mb w) ind p) (flat : Bool) {d : Doc} {a : Addr} (hd : DocAt w B0 (s.F b mb w) d a) (hok : CmOk ind d) (hk : d.kind = 1) (hw : s.weight + d.wt ≤ 8388608) (hcol : s.col ≤ 1000000000000 + (s.out.length : Int)) :
    Calls Tryd.prog 37 #[.pointer (some ⟨b, 0, none⟩), .agg #[.pointer p, .bool flat, .pointer (some a)]] w fun e w' => Ends B0 b mb ov s w (doM ov.o s.mach ⟨ind, flat, d⟩) e w' := by
  obtain ⟨g, off, kv, rfl, hFg, h6, hkv⟩ := hd
  obtain ⟨A, cap, hkvs⟩ := hkv.slice
  rw [hkvs] at hkv
  obtain ⟨hn0, hnc, kg, koff, hA, hds⟩ := docs_kids h hkv
  have hnl := kids_len_bulk hok.bulk
  have hbW : Below w.heap.size w (w.alloc (.cells #[.pointer p, .bool flat, .pointer (some ⟨g, off, none⟩)] 69)) := (Below.refl _ w).alloc (Nat.le_refl _) _
  have hcW : Blk (w.alloc (.cells #[.pointer p, .bool flat, .pointer (some ⟨g, off, none⟩)] 69)) w.heap.size [.pointer p, .bool flat, .pointer (some ⟨g, off, none⟩)] 69 := Blk.new' (W := w) _ _ rfl
  obtain ⟨W, hW⟩ : ∃ W, W = w.alloc (.cells #[.pointer p, .bool flat, .pointer (some ⟨g, off, none⟩)] 69) := ⟨_, rfl⟩
  rw [← hW] at hbW hcW
  have hgl : g < w.heap.size := hFg.1
  have k0 := (hbW.cell (p := ⟨g, off, none⟩) hgl).trans h6.kind
  have k2 := (hbW.cell (p := ⟨g, off + 2, none⟩) hgl).trans h6.kids
  rw [hk] at k0
  rw [hkvs] at k2
  have HFA : Hid (FAt B0 b mb ov s w p s W) := Lib.hid { m := h.below hbW, g := Goes.of_below hbW, x := hcW.cell 0, lt := hcW.lt, nx := fun hx => by have := h.X_lt hx; omega }
  have x0 := hcW.cell 0
  have x1 := hcW.cell 1
  have x2 := hcW.cell 2
  simp only [List.getElem?_cons_zero, List.getElem?_cons_succ] at x0 x1 x2
  have hWs := hcW.lt
  have HWW := Lib.hid hW
  have HM := Lib.hid h
  have HI := Lib.hid hi
  have HOK := Lib.hid hok
  have HDS := Lib.hid hds
  have HBW := Lib.hid hbW
  have HWT := Lib.hid hw
  have HK := Lib.hid hk
  have HA := Lib.hid hA
  have HFG := Lib.hid hFg
  have HR : Hid (doM ov.o s.mach ⟨ind, flat, d⟩ = (putM s.mach d.text.data.toList).map fun m1 => { m1 with col := m1.col + (widthB d.text : Int) }) := Lib.hid (by
    cases d
    simp only [Doc.kind] at hk
    subst hk
    rfl)
  have k1 := (hbW.cell (p := ⟨g, off + 1, none⟩) hgl).trans h6.text
  have hts : d.text.size ≤ 4194304 := by have := hok.bulk; rw [Doc.bulk_eq] at this; omega
  have hwd : (widthB d.text : Int) ≤ 4194304 := by have := widthB_le d.text; omega
  have hwd0 : 0 ≤ (widthB d.text : Int) := by omega
  have HWR := Lib.hid (write_is HFA.out.m d.text (by omega))
  have HWI := Lib.hid (fun (W : World) => width_any d.text W (by omega))
  have HT1 := Lib.hid h6.text
  have HCL := Lib.hid hcol
  clear h hcol hi hok hds hbW hW hw hcW h6 hkv hFg hkvs hA hn0 hk hnc
  generalize (widthB d.text : Int) = y at *
  generalize d.text = tx at *
  go_enter Tryd.func37, Tryd.ntmps37
  go_upto_region 1 with fail
  rw [← HWW.out]
  go_wp2_with fail
  refine HWR.out.mono ?_
  intro e w9 he
  have HE := Lib.hid he
  clear he
  cases hl : putM s.mach tx.data.toList with
  | none =>
    obtain ⟨rfl, hfr⟩ := ends_none HE.out hl
    refine ⟨rfl, ?_⟩
    rw [HR.out, hl]
    exact ⟨rfl, ends_long HFA.out.g hfr⟩
  | some m1 =>
    obtain ⟨rfl, s9, m9, a9, g9⟩ := ends_some HE.out hl
    have hcc : s9.col = s.col := col_put hl m9
    have hc0 := a9.col0
    have hc1 : s9.col ≤ 1500000000000 := by have := HCL.out; have := HM.out.len; omega
    have c10 := a9.cells.2.2.2.2.1
    have f10 := a9.blk.frozen 10
    have hw1 : IntKind.i64.wrap (s9.col + y) = s9.col + y := by rw [IntKind.wrap_i64]; omega
    have k1' : w9.cell? ⟨g, off + 1, none⟩ = some (.string tx) := (World.cell?_of_block (w := w) (a := ⟨g, off + 1, none⟩) ((HFA.out.g.trans g9).F HFG.out).2).trans HT1.out
    have hbl := a9.blk.lt
    have hg9 : g < w9.heap.size := by have := g9.1.size; omega
    have HLM := Lib.hid hl
    have HM9 := Lib.hid m9
    have HST := Lib.hid (fun (wt : World) (hb : Below w9.heap.size w9 wt) => (a9.below hb).setCol (s9.col + y) (by omega) (by omega))
    have HGT := Lib.hid (fun (wt : World) (hb : Below w9.heap.size w9 wt) => (HFA.out.g.trans g9).trans (Goes.of_below hb))
    clear m9 a9 g9 hl hcc hc0 hc1
    go_upto_region 5 with fail
    refine wp_region_chain2 (fun w' => w'.cell? ⟨b, 10, none⟩ = some (.int .i64 s9.col) ∧ w'.cell? ⟨g, off + 1, none⟩ = some (.string tx)) 8 4 _ (by kernel_rfl) rfl (by kernel_rfl) (by kernel_rfl) (by intro _ _ d _ _ h; cases d <;> exact h) ⟨c10, k1'⟩ ?_
    simp only [List.take_succ_cons, List.take_zero, List.drop_succ_cons, List.drop_zero, List.cons_append, List.nil_append]
    repeat (refine wpHeld_step rfl ?_; apply Exists.intro; refine ⟨fun wq hq => ?_, ?_⟩; (obtain ⟨q1, q2⟩ := hq; go_simp; first | done | rfl); simp only [Act.put, List.setIfInBounds_toArray, List.set_cons_zero, List.set_cons_succ])
    change wpSeq _ _ _ _ _ _ _
    refine wpSeq_step rfl (fun K hK => ?_)
    go_simp
    go_at_call 32
    refine (HWI.out _).mono ?_
    rintro e wt ⟨rfl, hbt⟩
    have hbt' : Below w9.heap.size w9 wt := (Below.refl _ w9).drew.trans (hbt : Below w9.heap.size w9.drew wt)
    have d0 := (hbt'.cell (p := ⟨b, 10, none⟩) hbl).trans c10
    have d1 := (hbt'.cell (p := ⟨g, off + 1, none⟩) hg9).trans k1'
    have df := (hbt'.frozen (p := ⟨b, 10, none⟩) hbl).trans f10
    have HBT := Lib.hid hbt'
    refine hK _ _ ⟨d0, d1⟩ ?_
    clear hK K hbt hbt'
    try simp only [Act.put, List.setIfInBounds_toArray, List.set_cons_zero, List.set_cons_succ]
    refine wpSeq_step rfl (fun K hK => ?_)
    go_simp
    refine hK _ _ ⟨d0, d1⟩ ?_
    clear hK K
    try simp only [Act.put, List.setIfInBounds_toArray, List.set_cons_zero, List.set_cons_succ]
    refine wpSeq_step rfl (fun K hK => ?_)
    go_simp
    refine hK _ _ ⟨d0, d1⟩ ?_
    clear hK K
    try simp only [Act.put, List.setIfInBounds_toArray, List.set_cons_zero, List.set_cons_succ]
    refine wpSeq_step rfl (fun K hK => ?_)
    go_simp
    refine hK _ _ ⟨d0, d1⟩ ?_
    clear hK K
    try simp only [Act.put, List.setIfInBounds_toArray, List.set_cons_zero, List.set_cons_succ]
    change Oper.wp _ _ _ _ _ _
    go_simp
    go_wp2_with fail
    go_end0
    rw [HR.out, HLM.out]
    exact ⟨rfl, _, by rw [← HM9.out]; rfl, (HST.out wt HBT.out).1, (HGT.out wt HBT.out).trans (HST.out wt HBT.out).2⟩
end

section
open Go.RowKit
set_option maxRecDepth 100000
set_option linter.unusedVariables false
set_option linter.unusedSimpArgs false

theorem kids_11 {d : Doc} (hs : d.shape = true) (hk : d.kind = 11) : d.kids.length = 1 := by
  rw [Doc.shape_eq, Bool.and_eq_true] at hs
  have := hs.1
  unfold Doc.formed at this
  rw [hk] at this
  simp [formedF] at this
  omega

theorem kids_12 {d : Doc} (hs : d.shape = true) (hk : d.kind = 12) : d.kids.length = 1 := by
  rw [Doc.shape_eq, Bool.and_eq_true] at hs
  have := hs.1
  unfold Doc.formed at this
  rw [hk] at this
  simp [formedF] at this
  omega

theorem kids_13 {d : Doc} (hs : d.shape = true) (hk : d.kind = 13) : d.kids.length = 1 := by
  rw [Doc.shape_eq, Bool.and_eq_true] at hs
  have := hs.1
  unfold Doc.formed at this
  rw [hk] at this
  simp [formedF] at this
  omega

theorem kids_14 {d : Doc} (hs : d.shape = true) (hk : d.kind = 14) : d.kids.length = 1 := by
  rw [Doc.shape_eq, Bool.and_eq_true] at hs
  have := hs.1
  unfold Doc.formed at this
  rw [hk] at this
  simp [formedF] at this
  omega

/-- A kid pushed under an indentation that may be new. -/
theorem push_new {B0 b mb : Nat} {ov : OptV} {s : MS} {w V : World} (h : MAt B0 b mb ov s w) (hb : Below w.heap.size w V) {ind : Ind} {p : Option Addr} (hi : IndAt V (s.F b mb V) ind p) (fl : Bool) {x : Doc} {kg koff : Nat} (hd : DocsAt w B0 (s.F b mb w) [x] [⟨kg, koff, none⟩]) (hok : CmOk ind x) {gp n c : Nat} (hp : Blk V gp [.pointer (some ⟨kg, koff, none⟩)] 66) (hgp : w.heap.size ≤ gp) (hn : n = 1) (hw : s.weight + wtL [x] ≤ 16777216) :
    Calls Tryd.prog 36 #[.pointer (some ⟨b, 0, none⟩), .pointer p, .bool fl, .slice (some ⟨gp, 0, none⟩) n c] V fun e w' => e = .returned (.tuple #[]) ∧ ∃ t', t'.mach = pushM s.mach ind fl [x] ∧ MAt B0 b mb ov t' w' ∧ Goes b mb s t' w w' ∧ ∀ k, k < V.heap.size → ¬ s.X b mb k → w'.heap[k]? = V.heap[k]? := by
  have hx : ¬ s.X b mb gp := fun hx => by have := h.X_lt hx; omega
  refine (push_is (h.below hb) hi fl (ptrs_at (la := [⟨kg, koff, none⟩]) hp ⟨hp.lt, hx⟩ hn c) (docs_below h hb hd) (fun y hy => by rw [List.mem_singleton] at hy; rw [hy]; exact hok) hw).mono fun e w' he => ?_
  obtain ⟨rfl, t', m', a', g'⟩ := he
  exact ⟨rfl, t', m', a', (Goes.of_below hb).trans g', fun k hk hx => g'.1.block k hk hx⟩

set_option maxHeartbeats 16000000 in
theorem do_indent {B0 b mb : Nat} {ov : OptV} {s : MS} {w : World} (h : MAt B0 b mb ov s w) {ind : Ind} {p : Option Addr} (hi : IndAt w (s.F b mb w) ind p) (flat : Bool) {d : Doc} {a : Addr} (hd : DocAt w B0 (s.F b mb w) d a) (hok : CmOk ind d) (hk : d.kind = 11) (hw : s.weight + d.wt ≤ 8388608) :
    Calls Tryd.prog 37 #[.pointer (some ⟨b, 0, none⟩), .agg #[.pointer p, .bool flat, .pointer (some a)]] w fun e w' => Ends B0 b mb ov s w (doM ov.o s.mach ⟨ind, flat, d⟩) e w' := by
  obtain ⟨g, off, kv, rfl, hFg, h6, hkv⟩ := hd
  obtain ⟨A, cap, hkvs⟩ := hkv.slice
  rw [hkvs] at hkv
  obtain ⟨hn0, hnc, kg, koff, hA, hds⟩ := docs_kids h hkv
  have hnl := kids_len_bulk hok.bulk
  have hbW : Below w.heap.size w (w.alloc (.cells #[.pointer p, .bool flat, .pointer (some ⟨g, off, none⟩)] 69)) := (Below.refl _ w).alloc (Nat.le_refl _) _
  have hcW : Blk (w.alloc (.cells #[.pointer p, .bool flat, .pointer (some ⟨g, off, none⟩)] 69)) w.heap.size [.pointer p, .bool flat, .pointer (some ⟨g, off, none⟩)] 69 := Blk.new' (W := w) _ _ rfl
  obtain ⟨W, hW⟩ : ∃ W, W = w.alloc (.cells #[.pointer p, .bool flat, .pointer (some ⟨g, off, none⟩)] 69) := ⟨_, rfl⟩
  rw [← hW] at hbW hcW
  have hgl : g < w.heap.size := hFg.1
  have k0 := (hbW.cell (p := ⟨g, off, none⟩) hgl).trans h6.kind
  have k2 := (hbW.cell (p := ⟨g, off + 2, none⟩) hgl).trans h6.kids
  rw [hk] at k0
  rw [hkvs] at k2
  have HFA : Hid (FAt B0 b mb ov s w p s W) := Lib.hid { m := h.below hbW, g := Goes.of_below hbW, x := hcW.cell 0, lt := hcW.lt, nx := fun hx => by have := h.X_lt hx; omega }
  have x0 := hcW.cell 0
  have x1 := hcW.cell 1
  have x2 := hcW.cell 2
  simp only [List.getElem?_cons_zero, List.getElem?_cons_succ] at x0 x1 x2
  have hWs := hcW.lt
  have HWW := Lib.hid hW
  have HM := Lib.hid h
  have HI := Lib.hid hi
  have HOK := Lib.hid hok
  have HDS := Lib.hid hds
  have HBW := Lib.hid hbW
  have HWT := Lib.hid hw
  have HK := Lib.hid hk
  have HA := Lib.hid hA
  have HFG := Lib.hid hFg
  have hn1 := kids_11 hok.shape hk
  obtain rfl := hA (by omega)
  rw [hn1] at k2
  have hgW : g < W.heap.size := Nat.lt_of_lt_of_le hgl hbW.size
  have HX : Hid (¬ s.X b mb w.heap.size) := Lib.hid HFA.out.nx
  have HWB := Lib.hid (wide_bound hok)
  have HSZ := Lib.hid hbW.size
  have HN1 := Lib.hid hn1
  have HTB : Hid (0 ≤ ov.o.tab ∧ ov.o.tab ≤ 10000) := Lib.hid (by have := tab_bd h.opt; omega)
  have HR : Hid (doM ov.o s.mach ⟨ind, flat, d⟩ = some (pushM s.mach ((true, ov.o.tab) :: ind) flat [d.kids[0]])) := Lib.hid (by
    rw [← kid0_nth (by omega)]
    cases d
    simp only [Doc.kind] at hk
    subst hk
    rfl)
  clear h hi hok hds hbW hW hw hcW h6 hkv hFg hkvs hn0 hk hnc
  go_enter Tryd.func37, Tryd.ntmps37
  go_upto_region 1 with fail
  rw [← HWW.out]
  go_upto_region 9 with fail
  refine wp_region_held (S := fun w' => w'.heap[w.heap.size]? = W.heap[w.heap.size]? ∧ w'.heap[g]? = W.heap[g]?) (by kernel_rfl) ?_
  change wpAnyH _ _ _ _ _ 14 _ _ _
  refine any_take 0 rfl (by kernel_rfl) (by kernel_rfl) (by kernel_rfl) rfl (by intro _ _ d _ _ h; cases d <;> exact h) ⟨(Below.refl W.heap.size W).block _ hWs, (Below.refl W.heap.size W).block _ hgW⟩ ?_
  apply Exists.intro
  refine ⟨fun wq hq => ?_, ?_⟩
  · have qx0 := (World.cell?_of_block (a := ⟨w.heap.size, 0, none⟩) hq.1).trans x0; have qx1 := (World.cell?_of_block (a := ⟨w.heap.size, 1, none⟩) hq.1).trans x1; have qx2 := (World.cell?_of_block (a := ⟨w.heap.size, 2, none⟩) hq.1).trans x2; have qk2 := (World.cell?_of_block (a := ⟨g, off + 2, none⟩) hq.2).trans k2
    go_simp
    first | done | rfl
  simp only [Act.put, List.setIfInBounds_toArray, List.set_cons_zero, List.set_cons_succ]
  refine any_take 1 rfl (by kernel_rfl) (by kernel_rfl) (by kernel_rfl) rfl (by intro _ _ d _ _ h; cases d <;> exact h) ⟨(Below.refl W.heap.size W).block _ hWs, (Below.refl W.heap.size W).block _ hgW⟩ ?_
  apply Exists.intro
  refine ⟨fun wq hq => ?_, ?_⟩
  · have qx0 := (World.cell?_of_block (a := ⟨w.heap.size, 0, none⟩) hq.1).trans x0; have qx1 := (World.cell?_of_block (a := ⟨w.heap.size, 1, none⟩) hq.1).trans x1; have qx2 := (World.cell?_of_block (a := ⟨w.heap.size, 2, none⟩) hq.1).trans x2; have qk2 := (World.cell?_of_block (a := ⟨g, off + 2, none⟩) hq.2).trans k2
    go_simp
    first | done | rfl
  simp only [Act.put, List.setIfInBounds_toArray, List.set_cons_zero, List.set_cons_succ]
  refine any_take 2 rfl (by kernel_rfl) (by kernel_rfl) (by kernel_rfl) rfl (by intro _ _ d _ _ h; cases d <;> exact h) ⟨(Below.refl W.heap.size W).block _ hWs, (Below.refl W.heap.size W).block _ hgW⟩ ?_
  apply Exists.intro
  refine ⟨fun wq hq => ?_, ?_⟩
  · have qx0 := (World.cell?_of_block (a := ⟨w.heap.size, 0, none⟩) hq.1).trans x0; have qx1 := (World.cell?_of_block (a := ⟨w.heap.size, 1, none⟩) hq.1).trans x1; have qx2 := (World.cell?_of_block (a := ⟨w.heap.size, 2, none⟩) hq.1).trans x2; have qk2 := (World.cell?_of_block (a := ⟨g, off + 2, none⟩) hq.2).trans k2
    go_simp
    first | done | rfl
  simp only [Act.put, List.setIfInBounds_toArray, List.set_cons_zero, List.set_cons_succ]
  refine any_take 3 rfl (by kernel_rfl) (by kernel_rfl) (by kernel_rfl) rfl (by intro _ _ d _ _ h; cases d <;> exact h) ⟨(Below.refl W.heap.size W).block _ hWs, (Below.refl W.heap.size W).block _ hgW⟩ ?_
  apply Exists.intro
  refine ⟨fun wq hq => ?_, ?_⟩
  · have qx0 := (World.cell?_of_block (a := ⟨w.heap.size, 0, none⟩) hq.1).trans x0; have qx1 := (World.cell?_of_block (a := ⟨w.heap.size, 1, none⟩) hq.1).trans x1; have qx2 := (World.cell?_of_block (a := ⟨w.heap.size, 2, none⟩) hq.1).trans x2; have qk2 := (World.cell?_of_block (a := ⟨g, off + 2, none⟩) hq.2).trans k2
    go_simp
    first | done | rfl
  simp only [Act.put, List.setIfInBounds_toArray, List.set_cons_zero, List.set_cons_succ]
  refine any_take 5 rfl (by kernel_rfl) (by kernel_rfl) (by kernel_rfl) rfl (by intro _ _ d _ _ h; cases d <;> exact h) ⟨(Below.refl W.heap.size W).block _ hWs, (Below.refl W.heap.size W).block _ hgW⟩ ?_
  apply Exists.intro
  refine ⟨fun wq hq => ?_, ?_⟩
  · have qx0 := (World.cell?_of_block (a := ⟨w.heap.size, 0, none⟩) hq.1).trans x0; have qx1 := (World.cell?_of_block (a := ⟨w.heap.size, 1, none⟩) hq.1).trans x1; have qx2 := (World.cell?_of_block (a := ⟨w.heap.size, 2, none⟩) hq.1).trans x2; have qk2 := (World.cell?_of_block (a := ⟨g, off + 2, none⟩) hq.2).trans k2
    go_simp
    first | done | rfl
  simp only [Act.put, List.setIfInBounds_toArray, List.set_cons_zero, List.set_cons_succ]
  refine any_take 6 rfl (by kernel_rfl) (by kernel_rfl) (by kernel_rfl) rfl (by intro _ _ d _ _ h; cases d <;> exact h) ⟨(Below.refl W.heap.size W).block _ hWs, (Below.refl W.heap.size W).block _ hgW⟩ ?_
  apply Exists.intro
  refine ⟨fun wq hq => ?_, ?_⟩
  · have qx0 := (World.cell?_of_block (a := ⟨w.heap.size, 0, none⟩) hq.1).trans x0; have qx1 := (World.cell?_of_block (a := ⟨w.heap.size, 1, none⟩) hq.1).trans x1; have qx2 := (World.cell?_of_block (a := ⟨w.heap.size, 2, none⟩) hq.1).trans x2; have qk2 := (World.cell?_of_block (a := ⟨g, off + 2, none⟩) hq.2).trans k2
    go_simp
    first | done | rfl
  simp only [Act.put, List.setIfInBounds_toArray, List.set_cons_zero, List.set_cons_succ]
  refine any_take 7 rfl (by kernel_rfl) (by kernel_rfl) (by kernel_rfl) rfl (by intro _ _ d _ _ h; cases d <;> exact h) ⟨(Below.refl W.heap.size W).block _ hWs, (Below.refl W.heap.size W).block _ hgW⟩ ?_
  apply Exists.intro
  refine ⟨fun wq hq => ?_, ?_⟩
  · have qx0 := (World.cell?_of_block (a := ⟨w.heap.size, 0, none⟩) hq.1).trans x0; have qx1 := (World.cell?_of_block (a := ⟨w.heap.size, 1, none⟩) hq.1).trans x1; have qx2 := (World.cell?_of_block (a := ⟨w.heap.size, 2, none⟩) hq.1).trans x2; have qk2 := (World.cell?_of_block (a := ⟨g, off + 2, none⟩) hq.2).trans k2
    go_simp
    first | done | rfl
  simp only [Act.put, List.setIfInBounds_toArray, List.set_cons_zero, List.set_cons_succ]
  refine any_take 8 rfl (by kernel_rfl) (by kernel_rfl) (by kernel_rfl) rfl (by intro _ _ d _ _ h; cases d <;> exact h) ⟨(Below.refl W.heap.size W).block _ hWs, (Below.refl W.heap.size W).block _ hgW⟩ ?_
  apply Exists.intro
  refine ⟨fun wq hq => ?_, ?_⟩
  · have qx0 := (World.cell?_of_block (a := ⟨w.heap.size, 0, none⟩) hq.1).trans x0; have qx1 := (World.cell?_of_block (a := ⟨w.heap.size, 1, none⟩) hq.1).trans x1; have qx2 := (World.cell?_of_block (a := ⟨w.heap.size, 2, none⟩) hq.1).trans x2; have qk2 := (World.cell?_of_block (a := ⟨g, off + 2, none⟩) hq.2).trans k2
    go_simp
    first | done | rfl
  simp only [Act.put, List.setIfInBounds_toArray, List.set_cons_zero, List.set_cons_succ]
  refine any_take 9 rfl (by kernel_rfl) (by kernel_rfl) (by kernel_rfl) rfl (by intro _ _ d _ _ h; cases d <;> exact h) ⟨(Below.refl W.heap.size W).block _ hWs, (Below.refl W.heap.size W).block _ hgW⟩ ?_
  apply Exists.intro
  refine ⟨fun wq hq => ?_, ?_⟩
  · have qx0 := (World.cell?_of_block (a := ⟨w.heap.size, 0, none⟩) hq.1).trans x0; have qx1 := (World.cell?_of_block (a := ⟨w.heap.size, 1, none⟩) hq.1).trans x1; have qx2 := (World.cell?_of_block (a := ⟨w.heap.size, 2, none⟩) hq.1).trans x2; have qk2 := (World.cell?_of_block (a := ⟨g, off + 2, none⟩) hq.2).trans k2
    go_simp
    first | done | rfl
  simp only [Act.put, List.setIfInBounds_toArray, List.set_cons_zero, List.set_cons_succ]
  refine any_take 10 rfl (by kernel_rfl) (by kernel_rfl) (by kernel_rfl) rfl (by intro _ _ d _ _ h; cases d <;> exact h) ⟨(Below.refl W.heap.size W).block _ hWs, (Below.refl W.heap.size W).block _ hgW⟩ ?_
  apply Exists.intro
  refine ⟨fun wq hq => ?_, ?_⟩
  · have qx0 := (World.cell?_of_block (a := ⟨w.heap.size, 0, none⟩) hq.1).trans x0; have qx1 := (World.cell?_of_block (a := ⟨w.heap.size, 1, none⟩) hq.1).trans x1; have qx2 := (World.cell?_of_block (a := ⟨w.heap.size, 2, none⟩) hq.1).trans x2; have qk2 := (World.cell?_of_block (a := ⟨g, off + 2, none⟩) hq.2).trans k2
    go_simp
    first | done | rfl
  simp only [Act.put, List.setIfInBounds_toArray, List.set_cons_zero, List.set_cons_succ]
  refine any_take 11 rfl (by kernel_rfl) (by kernel_rfl) (by kernel_rfl) rfl (by intro _ _ d _ _ h; cases d <;> exact h) ⟨(Below.refl W.heap.size W).block _ hWs, (Below.refl W.heap.size W).block _ hgW⟩ ?_
  apply Exists.intro
  refine ⟨fun wq hq => ?_, ?_⟩
  · have qx0 := (World.cell?_of_block (a := ⟨w.heap.size, 0, none⟩) hq.1).trans x0; have qx1 := (World.cell?_of_block (a := ⟨w.heap.size, 1, none⟩) hq.1).trans x1; have qx2 := (World.cell?_of_block (a := ⟨w.heap.size, 2, none⟩) hq.1).trans x2; have qk2 := (World.cell?_of_block (a := ⟨g, off + 2, none⟩) hq.2).trans k2
    go_simp
    first | done | rfl
  simp only [Act.put, List.setIfInBounds_toArray, List.set_cons_zero, List.set_cons_succ]
  refine wpAnyH_all (rs := [4, 12]) (by kernel_rfl) (by simp) (fun i hi => ?_)
  simp only [List.mem_cons, List.not_mem_nil, or_false] at hi
  rcases hi with rfl | rfl
  · refine any_step 4 rfl rfl (fun K hK => ?_)
    go_simp
    refine (step_is (HFA.out.next (Below.refl W.heap.size W).drew).m ((HFA.out.next (Below.refl W.heap.size W).drew).g.ind HI.out) HWB.out).mono ?_
    rintro e w1 ⟨gs, rfl, hb1, hi1⟩
    have HL1 := Lib.hid hb1
    have HW1 : Hid (Below W.heap.size W w1) := Lib.hid ((Below.refl W.heap.size W).drew.trans (hb1.mono (Below.refl W.heap.size W).drew.size))
    have HI1 := Lib.hid hi1
    clear hb1 hi1
    refine hK _ _ ⟨HW1.out.block _ hWs, HW1.out.block _ hgW⟩ ?_
    clear hK K
    try simp only [Act.put, List.setIfInBounds_toArray, List.set_cons_zero, List.set_cons_succ]
    refine wpAnyH_all (rs := [12]) (by kernel_rfl) (by simp) (fun i hi => ?_)
    obtain rfl : i = 12 := by simpa using hi
    refine any_step 12 rfl rfl (fun K hK => ?_)
    go_simp
    have hbVB : Below w1.heap.size w1 (w1.alloc (.cells #[.pointer (some ⟨kg, koff, none⟩)] 66)) := (Below.refl _ _).alloc (Nat.le_refl _) _
    have hkVB : Blk (w1.alloc (.cells #[.pointer (some ⟨kg, koff, none⟩)] 66)) w1.heap.size [.pointer (some ⟨kg, koff, none⟩)] 66 := Blk.new' (W := w1) _ _ rfl
    obtain ⟨VB, eVB⟩ : ∃ VB, VB = (w1.alloc (.cells #[.pointer (some ⟨kg, koff, none⟩)] 66)) := ⟨_, rfl⟩
    rw [← eVB] at hbVB hkVB  ⊢
    have HKVB := Lib.hid hkVB
    have HLVB := Lib.hid hbVB
    have HWVB : Hid (Below W.heap.size W VB) := Lib.hid (HW1.out.trans (hbVB.mono HW1.out.size))
    clear hbVB eVB hkVB
    refine hK _ _ ⟨HWVB.out.block _ hWs, HWVB.out.block _ hgW⟩ ?_
    clear hK K
    try simp only [Act.put, List.setIfInBounds_toArray, List.set_cons_zero, List.set_cons_succ]
    refine wpAnyH_all (rs := [13]) (by kernel_rfl) (by simp) (fun i hi => ?_)
    obtain rfl : i = 13 := by simpa using hi
    refine any_step 13 rfl rfl (fun K hK => ?_)
    go_simp
    refine (push_new (n := 1) HM.out (HBW.out.trans (HWVB.out.mono HBW.out.size)) ((Goes.of_below (b := b) (mb := mb) (s := s) HLVB.out).ind HI1.out) flat (docs_nth HDS.out 0 (by have := HN1.out; omega)) (HOK.out.kidIn (List.getElem_mem _) HTB.out.1 HTB.out.2) HKVB.out (by have := HW1.out.size; have := HSZ.out; omega) rfl (by have := wt_nth d 0 (by have := HN1.out; omega); have := HWT.out; omega)).mono ?_
    rintro e w9 ⟨rfl, t9, m9, a9, g9, f9⟩
    have HM9 := Lib.hid m9
    have HA9 := Lib.hid a9
    have HG9 := Lib.hid g9
    refine hK _ _ ⟨(f9 _ (by have := HWVB.out.size; omega) HX.out).trans (HWVB.out.block _ hWs), (f9 _ (by have := HWVB.out.size; omega) HFG.out.2).trans (HWVB.out.block _ hgW)⟩ ?_
    clear m9 a9 g9 f9
    clear hK K
    try simp only [Act.put, List.setIfInBounds_toArray, List.set_cons_zero, List.set_cons_succ]
    refine wpAnyH_done (by kernel_rfl) ?_ _
    first
      | change Exit.then _ _ Exit.normal _ _
      | change Exit.inBlock _ _ Exit.normal _ _
    go_wp2_with fail
    go_end0
    rw [HR.out]
    exact ⟨rfl, t9, HM9.out, HA9.out, HG9.out⟩
  · refine any_step 12 rfl rfl (fun K hK => ?_)
    go_simp
    have hbVA : Below W.heap.size W (W.alloc (.cells #[.pointer (some ⟨kg, koff, none⟩)] 66)).drew := ((Below.refl _ _).alloc (Nat.le_refl _) _).drew
    have hkVA : Blk (W.alloc (.cells #[.pointer (some ⟨kg, koff, none⟩)] 66)).drew W.heap.size [.pointer (some ⟨kg, koff, none⟩)] 66 := Blk.new' (W := W) _ _ rfl
    obtain ⟨VA, eVA⟩ : ∃ VA, VA = (W.alloc (.cells #[.pointer (some ⟨kg, koff, none⟩)] 66)).drew := ⟨_, rfl⟩
    rw [← eVA] at hbVA hkVA  ⊢
    have HKVA := Lib.hid hkVA
    have HLVA := Lib.hid hbVA
    have HWVA : Hid (Below W.heap.size W VA) := Lib.hid ((Below.refl W.heap.size W).trans (hbVA.mono (Below.refl W.heap.size W).size))
    clear hbVA eVA hkVA
    refine hK _ _ ⟨HWVA.out.block _ hWs, HWVA.out.block _ hgW⟩ ?_
    clear hK K
    try simp only [Act.put, List.setIfInBounds_toArray, List.set_cons_zero, List.set_cons_succ]
    refine wpAnyH_all (rs := [4]) (by kernel_rfl) (by simp) (fun i hi => ?_)
    obtain rfl : i = 4 := by simpa using hi
    refine any_step 4 rfl rfl (fun K hK => ?_)
    go_simp
    refine (step_is (HFA.out.next HWVA.out).m ((HFA.out.next HWVA.out).g.ind HI.out) HWB.out).mono ?_
    rintro e w1 ⟨gs, rfl, hb1, hi1⟩
    have HL1 := Lib.hid hb1
    have HW1 : Hid (Below W.heap.size W w1) := Lib.hid (HWVA.out.trans (hb1.mono HWVA.out.size))
    have HI1 := Lib.hid hi1
    clear hb1 hi1
    refine hK _ _ ⟨HW1.out.block _ hWs, HW1.out.block _ hgW⟩ ?_
    clear hK K
    try simp only [Act.put, List.setIfInBounds_toArray, List.set_cons_zero, List.set_cons_succ]
    refine wpAnyH_all (rs := [13]) (by kernel_rfl) (by simp) (fun i hi => ?_)
    obtain rfl : i = 13 := by simpa using hi
    refine any_step 13 rfl rfl (fun K hK => ?_)
    go_simp
    refine (push_new (n := 1) HM.out (HBW.out.trans (HW1.out.mono HBW.out.size)) HI1.out flat (docs_nth HDS.out 0 (by have := HN1.out; omega)) (HOK.out.kidIn (List.getElem_mem _) HTB.out.1 HTB.out.2) (HKVA.out.below HL1.out) HSZ.out rfl (by have := wt_nth d 0 (by have := HN1.out; omega); have := HWT.out; omega)).mono ?_
    rintro e w9 ⟨rfl, t9, m9, a9, g9, f9⟩
    have HM9 := Lib.hid m9
    have HA9 := Lib.hid a9
    have HG9 := Lib.hid g9
    refine hK _ _ ⟨(f9 _ (by have := HW1.out.size; omega) HX.out).trans (HW1.out.block _ hWs), (f9 _ (by have := HW1.out.size; omega) HFG.out.2).trans (HW1.out.block _ hgW)⟩ ?_
    clear m9 a9 g9 f9
    clear hK K
    try simp only [Act.put, List.setIfInBounds_toArray, List.set_cons_zero, List.set_cons_succ]
    refine wpAnyH_done (by kernel_rfl) ?_ _
    first
      | change Exit.then _ _ Exit.normal _ _
      | change Exit.inBlock _ _ Exit.normal _ _
    go_wp2_with fail
    go_end0
    rw [HR.out]
    exact ⟨rfl, t9, HM9.out, HA9.out, HG9.out⟩
end
end Go.Proofs.YthljgiimdcbfpaaDoor
