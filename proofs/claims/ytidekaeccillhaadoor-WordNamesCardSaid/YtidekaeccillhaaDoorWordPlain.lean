/- The words and the operators in plain Lean, as the reference lists them. Printed by wip/gen_words.py. -/
import Derived.WalkKit
namespace Go.Proofs.YtidekaeccillhaaDoor

/-- Is a text in a list? -/
def hasB (xs : List ByteArray) (s : ByteArray) : Bool := xs.any fun x => x.data.toList == s.data.toList
theorem hasB_drop (s : ByteArray) (k : Nat) (xs : List ByteArray) (h : k < xs.length) : hasB (xs.drop k) s = (((xs.getD k default).data.toList == s.data.toList) || hasB (xs.drop (k + 1)) s) := by
  unfold hasB
  rw [List.drop_eq_getElem_cons h, List.any_cons]
  simp only [List.getD_eq_getElem?_getD, List.getElem?_eq_getElem h, Option.getD_some]
theorem eq_of_data {s t : ByteArray} (h : s.data.toList = t.data.toList) : s = t := by
  obtain ⟨⟨a⟩⟩ := s
  obtain ⟨⟨b⟩⟩ := t
  simpa using h
theorem hasB_mem {xs : List ByteArray} {s : ByteArray} (h : hasB xs s = true) : s ∈ xs := by
  unfold hasB at h
  rw [List.any_eq_true] at h
  obtain ⟨x, hx, he⟩ := h
  have := eq_of_data (eq_of_beq he)
  exact this ▸ hx
theorem hasB_not {xs : List ByteArray} {s x : ByteArray} (h : hasB xs s = false) (hx : x ∈ xs) : (s.data.toList == x.data.toList) = false := by
  unfold hasB at h
  rw [List.any_eq_false] at h
  have := h x hx
  simp only [Bool.not_eq_true] at this
  rw [beq_eq_false_iff_ne] at this ⊢
  exact fun e => this e.symm
/-- The same in the walk's spelling. -/
theorem hasB_notW {xs : List ByteArray} {s : ByteArray} (x : ByteArray) (h : hasB xs s = false) (hx : x ∈ xs) : (s.toList == x.data.toList) = false := by
  rw [ByteArray.toList_eq]
  exact hasB_not h hx

def words : List ByteArray := [⟨#[98, 114, 101, 97, 107]⟩, ⟨#[99, 97, 115, 101]⟩, ⟨#[99, 97, 116, 99, 104]⟩, ⟨#[99, 108, 97, 115, 115]⟩, ⟨#[99, 111, 110, 115, 116]⟩, ⟨#[99, 111, 110, 116, 105, 110, 117, 101]⟩, ⟨#[100, 101, 98, 117, 103, 103, 101, 114]⟩, ⟨#[100, 101, 102, 97, 117, 108, 116]⟩, ⟨#[100, 101, 108, 101, 116, 101]⟩, ⟨#[100, 111]⟩, ⟨#[101, 108, 115, 101]⟩, ⟨#[101, 110, 117, 109]⟩, ⟨#[101, 120, 112, 111, 114, 116]⟩, ⟨#[101, 120, 116, 101, 110, 100, 115]⟩, ⟨#[102, 97, 108, 115, 101]⟩, ⟨#[102, 105, 110, 97, 108, 108, 121]⟩, ⟨#[102, 111, 114]⟩, ⟨#[102, 117, 110, 99, 116, 105, 111, 110]⟩, ⟨#[105, 102]⟩, ⟨#[105, 109, 112, 108, 101, 109, 101, 110, 116, 115]⟩, ⟨#[105, 109, 112, 111, 114, 116]⟩, ⟨#[105, 110]⟩, ⟨#[105, 110, 115, 116, 97, 110, 99, 101, 111, 102]⟩, ⟨#[105, 110, 116, 101, 114, 102, 97, 99, 101]⟩, ⟨#[108, 101, 116]⟩, ⟨#[110, 101, 119]⟩, ⟨#[110, 117, 108, 108]⟩, ⟨#[112, 97, 99, 107, 97, 103, 101]⟩, ⟨#[112, 114, 105, 118, 97, 116, 101]⟩, ⟨#[112, 114, 111, 116, 101, 99, 116, 101, 100]⟩, ⟨#[112, 117, 98, 108, 105, 99]⟩, ⟨#[114, 101, 116, 117, 114, 110]⟩, ⟨#[115, 116, 97, 116, 105, 99]⟩, ⟨#[115, 117, 112, 101, 114]⟩, ⟨#[115, 119, 105, 116, 99, 104]⟩, ⟨#[116, 104, 105, 115]⟩, ⟨#[116, 104, 114, 111, 119]⟩, ⟨#[116, 114, 117, 101]⟩, ⟨#[116, 114, 121]⟩, ⟨#[116, 121, 112, 101, 111, 102]⟩, ⟨#[118, 97, 114]⟩, ⟨#[118, 111, 105, 100]⟩, ⟨#[119, 104, 105, 108, 101]⟩, ⟨#[119, 105, 116, 104]⟩, ⟨#[121, 105, 101, 108, 100]⟩]
def levRows : List (List ByteArray) := [[⟨#[63, 63]⟩], [⟨#[124, 124]⟩], [⟨#[38, 38]⟩], [⟨#[124]⟩], [⟨#[94]⟩], [⟨#[38]⟩], [⟨#[61, 61]⟩, ⟨#[33, 61]⟩, ⟨#[61, 61, 61]⟩, ⟨#[33, 61, 61]⟩], [⟨#[60]⟩, ⟨#[62]⟩, ⟨#[60, 61]⟩, ⟨#[62, 61]⟩, ⟨#[105, 110]⟩, ⟨#[105, 110, 115, 116, 97, 110, 99, 101, 111, 102]⟩], [⟨#[60, 60]⟩, ⟨#[62, 62]⟩, ⟨#[62, 62, 62]⟩], [⟨#[43]⟩, ⟨#[45]⟩], [⟨#[42]⟩, ⟨#[47]⟩, ⟨#[37]⟩], [⟨#[42, 42]⟩]]
def opsAll : List ByteArray := [⟨#[42, 42]⟩, ⟨#[42]⟩, ⟨#[47]⟩, ⟨#[37]⟩, ⟨#[43]⟩, ⟨#[45]⟩, ⟨#[60, 60]⟩, ⟨#[62, 62]⟩, ⟨#[62, 62, 62]⟩, ⟨#[60]⟩, ⟨#[62]⟩, ⟨#[60, 61]⟩, ⟨#[62, 61]⟩, ⟨#[105, 110]⟩, ⟨#[105, 110, 115, 116, 97, 110, 99, 101, 111, 102]⟩, ⟨#[61, 61]⟩, ⟨#[33, 61]⟩, ⟨#[61, 61, 61]⟩, ⟨#[33, 61, 61]⟩, ⟨#[38]⟩, ⟨#[94]⟩, ⟨#[124]⟩, ⟨#[38, 38]⟩, ⟨#[124, 124]⟩, ⟨#[63, 63]⟩]
/-- The number of the first row that holds it, counted from 1; 0: none does. -/
def levFrom (s : ByteArray) : List (List ByteArray) → Nat → Nat
  | [], _ => 0
  | r :: t, i => if hasB r s = true then i + 1 else levFrom s t (i + 1)
def levB (s : ByteArray) : Nat := levFrom s levRows 0
theorem levFrom_drop (s : ByteArray) : ∀ (k i : Nat) (rows : List (List ByteArray)), k < rows.length →
    levFrom s (rows.drop k) i = if hasB (rows.getD k []) s = true then i + 1 else levFrom s (rows.drop (k + 1)) (i + 1)
  | 0, i, [], h => by simp at h
  | 0, i, r :: t, _ => by simp [levFrom]
  | k + 1, i, [], h => by simp at h
  | k + 1, i, r :: t, h => by simpa using levFrom_drop s k i t (by simpa using h)
theorem hasB_none {xs : List ByteArray} {s : ByteArray} (h : ∀ x ∈ xs, (s.data.toList == x.data.toList) = false) : hasB xs s = false := by
  unfold hasB
  rw [List.any_eq_false]
  intro x hx
  have := h x hx
  rw [beq_eq_false_iff_ne] at this
  simp only [Bool.not_eq_true]
  rw [beq_eq_false_iff_ne]
  exact fun e => this e.symm
theorem levB_none {s : ByteArray} (h : hasB opsAll s = false) : levB s = 0 := by
  have k : ∀ xs : List ByteArray, (∀ x ∈ xs, x ∈ opsAll) → hasB xs s = false := fun xs hx => hasB_none fun x hm => hasB_not h (hx x hm)
  unfold levB levRows
  simp only [levFrom]
  rw [if_neg (by rw [k _ (by simp [opsAll])]; decide)]
  rw [if_neg (by rw [k _ (by simp [opsAll])]; decide)]
  rw [if_neg (by rw [k _ (by simp [opsAll])]; decide)]
  rw [if_neg (by rw [k _ (by simp [opsAll])]; decide)]
  rw [if_neg (by rw [k _ (by simp [opsAll])]; decide)]
  rw [if_neg (by rw [k _ (by simp [opsAll])]; decide)]
  rw [if_neg (by rw [k _ (by simp [opsAll])]; decide)]
  rw [if_neg (by rw [k _ (by simp [opsAll])]; decide)]
  rw [if_neg (by rw [k _ (by simp [opsAll])]; decide)]
  rw [if_neg (by rw [k _ (by simp [opsAll])]; decide)]
  rw [if_neg (by rw [k _ (by simp [opsAll])]; decide)]
  rw [if_neg (by rw [k _ (by simp [opsAll])]; decide)]
def awaitB : ByteArray := ⟨#[97, 119, 97, 105, 116]⟩
/-- May no Ident be called so? -/
def resB (s : ByteArray) (m : Bool) : Bool := (m && (s.data.toList == awaitB.data.toList)) || hasB words s
def rightB (s : ByteArray) : Bool := s.data.toList == [42, 42]
end Go.Proofs.YtidekaeccillhaaDoor
