/- A number's digits in plain Lean. -/
import Derived.Test.YthljgiimdcbfpaaDoorRows
import Derived.Test.YthljgiimdcbfpaaDoorMGround
import Derived.Laws.AppendOwnNone
import Derived.Lib.UnsafeStr
namespace Go.Proofs.YthljgiimdcbfpaaDoor
section
/-- The digits of n ahead of what is there; at least one. -/
def decLoop : Nat → Nat → List UInt8 → List UInt8
  | 0, _, acc => acc
  | f + 1, n, acc => if 0 < n ∨ acc = [] then decLoop f (n / 10) (UInt8.ofNat (48 + n % 10) :: acc) else acc
def digs (n : Nat) : List UInt8 := decLoop 20 n []
def decB (a : Int) : List UInt8 := (if a < 0 then [45] else []) ++ digs a.natAbs

theorem decLoop_step (f n : Nat) (acc : List UInt8) (h : 0 < n ∨ acc = []) : decLoop (f + 1) n acc = decLoop f (n / 10) (UInt8.ofNat (48 + n % 10) :: acc) := by
  show (if _ then _ else _) = _
  rw [if_pos h]
theorem decLoop_end (f : Nat) (acc : List UInt8) (h : acc ≠ []) : decLoop f 0 acc = acc := by
  cases f with
  | zero => rfl
  | succ f =>
    show (if _ then _ else _) = _
    rw [if_neg (by simp [h])]
theorem decLoop_tail : ∀ (f n : Nat) (acc : List UInt8), ∃ pre, decLoop f n acc = pre ++ acc
  | 0, _, acc => ⟨[], rfl⟩
  | f + 1, n, acc => by
    by_cases h : 0 < n ∨ acc = []
    · rw [decLoop_step f n acc h]
      obtain ⟨pre, e⟩ := decLoop_tail f (n / 10) (UInt8.ofNat (48 + n % 10) :: acc)
      exact ⟨pre ++ [UInt8.ofNat (48 + n % 10)], by rw [e]; simp⟩
    · exact ⟨[], by show (if _ then _ else _) = _; rw [if_neg h]; rfl⟩
/-- The last letter of a number's text is a digit. -/
theorem decB_last (a : Int) : ∃ pre, ∃ d : Nat, d < 10 ∧ decB a = pre ++ [UInt8.ofNat (48 + d)] := by
  unfold decB digs
  rw [decLoop_step 19 _ [] (Or.inr rfl)]
  obtain ⟨pre, e⟩ := decLoop_tail 19 (a.natAbs / 10) [UInt8.ofNat (48 + a.natAbs % 10)]
  exact ⟨_ ++ pre, a.natAbs % 10, Nat.mod_lt _ (by decide), by rw [e, List.append_assoc]⟩
theorem pow10 : 18446744073709551616 ≤ 10 ^ 20 := by decide
end

section
open Go.RowKit
set_option maxRecDepth 100000
set_option linter.unusedVariables false

def lenOf : Value → Nat | .slice _ n _ => n | _ => 0
theorem info8 : (Tryd.prog.info? 5).map (fun i => (i.zero, i.size, i.bytes)) = some (some (.int .u8 0), 1, 1) := by kernel_rfl
theorem ret_str {l l' : List UInt8} (h : l' = l) : Ending.returned (.string ⟨l.toArray⟩) = .returned (.string ⟨l'.toArray⟩) := by rw [h]
theorem len_cons' (c : UInt8) (l : List UInt8) : (c :: l).length = 1 + l.length := by rw [List.length_cons, Nat.add_comm]
theorem digit_nat (n : Nat) : (UInt8.ofNat (48 + n % 10)).toNat = 48 + n % 10 := by
  have h : n % 10 < 10 := Nat.mod_lt _ (by decide)
  simp
  omega
theorem digit_cells (n : Nat) (acc : List UInt8) : [Value.int .u8 (48 + (n : Int) % 10)] ++ Lib.byteCells acc = Lib.byteCells (UInt8.ofNat (48 + n % 10) :: acc) := by
  unfold Lib.byteCells
  rw [List.map_cons, digit_nat]
  simp
theorem cells_len (l : List UInt8) : (Lib.byteCells l).length = l.length := by simp [Lib.byteCells]
theorem one_cell {l : List UInt8} : ∀ u ∈ Lib.byteCells l, u.oneCell' = true := by
  intro u hu
  unfold Lib.byteCells at hu
  rw [List.mem_map] at hu
  obtain ⟨b, _, rfl⟩ := hu
  rfl
/-- A slice that owns bytes: its address, and each of its cells. -/
theorem own_bytesD {w : World} {base t n : Nat} {v : Value} {l : List UInt8} (h : w.ownsRow base t 1 v n (Lib.byteCells l)) (hl : l ≠ []) :
    ∃ g cap, v = .slice (some ⟨g, 0, none⟩) n cap ∧ ∀ j (hj : j < l.length), w.cell? ((⟨g, 0, none⟩ : Addr).add j) = some (.int .u8 (l[j].toNat : Int)) := by
  have hn : n = l.length := by have := h.1; rw [cells_len] at this; omega
  have h0 : l.length ≠ 0 := by simpa using hl
  obtain ⟨g, cap, e⟩ : ∃ g cap, v = .slice (some ⟨g, 0, none⟩) n cap := by
    rcases h.2 with ⟨_, h'⟩ | ⟨g, cap, _, e, _⟩
    · omega
    · exact ⟨g, cap, e⟩
  subst e
  refine ⟨g, cap, rfl, fun j hj => ?_⟩
  refine h.cells (g := g) rfl j _ ?_
  simp [Lib.byteCells, hj]

set_option maxHeartbeats 4000000 in
theorem decimal_neg (a : Int) (wa : -9223372036854775808 ≤ a) (wa' : a ≤ 9223372036854775807) (hneg : a < 0) (w : World) :
    Calls Tryd.prog 22 #[.int .i64 a] w fun e w' => e = .returned (.string ⟨(decB a).toArray⟩) ∧ Below w.heap.size w w' := by
  obtain ⟨i0, hi0, hz0, hz1, hz2⟩ := info_parts info8
  have HD : Hid (decB a = 45 :: digs a.natAbs) := Lib.hid (by unfold decB; rw [if_pos hneg]; rfl)
  have HA : Hid (-(a + 1) + 1 = ((a.natAbs : Nat) : Int)) := Lib.hid (by omega)
  have hA9 : ((a.natAbs : Nat) : Int) ≤ 9223372036854775808 := by omega
  have HP : Hid (a.natAbs < 10 ^ 20) := Lib.hid (Nat.lt_of_lt_of_le (by omega) pow10)
  go_enter Tryd.func22, Tryd.ntmps22
  go_wp2_with fail
  rw [HA.out]
  go_loopw [3, 4] (fun sz out wr => ∃ (n f : Nat) (acc : List UInt8), sz = .int .u64 (n : Int) ∧ (n : Int) ≤ 9223372036854775808 ∧ acc.length + f = 20 ∧ n < 10 ^ f ∧ (acc = [] → out = .slice none 0 0) ∧ wr.ownsRow w.heap.size 5 1 out acc.length (Lib.byteCells acc) ∧ Below w.heap.size w wr ∧ decLoop f n acc = digs a.natAbs) (fun sz out _ => 2 * (intOf sz).toNat + (if lenOf out = 0 then 1 else 0))
  case atStart => exact ⟨a.natAbs, 20, [], rfl, hA9, rfl, HP.out, fun _ => rfl, World.ownsRow_nil _ _ _ _, Below.refl _ w, rfl⟩
  case round =>
    obtain ⟨n, f, acc, rfl, hn9, hf, hp, hnil, hown, hbw, hd⟩ := hrel
    have HDL := Lib.hid hd
    have HP2 := Lib.hid hp
    clear hd hp
    have hz' := hbw.size
    by_cases hE : acc = []
    · subst hE
      obtain rfl := hnil rfl
      clear hnil
      obtain rfl : f = 20 := by simpa using hf
      have HS := Lib.hid (decLoop_step 19 n [] (Or.inr rfl))
      by_cases h0 : 0 < (n : Int)
      · clear hf
        have hlit := World.ownsRow_lit (base := w.heap.size) (e := 5) (size := 1) wr #[.int .u8 (48 + (n : Int) % 10)] 1 hbw.size (by unfold maxLen; omega) rfl
        have HLIT := Lib.hid hlit
        clear hlit
        go_wp2_with (at_builtin; refine wpList_append_own_none _ rfl (.tmp 25) (.tmp 26) _ rfl w.heap.size 5 i0 1 Tryd.underlying35 hi0 _ 1 _ rfl HLIT.out rfl ?_)
        go_roundw
        case rel => exact ⟨n / 10, 19, [UInt8.ofNat (48 + n % 10)], by go_num, by omega, rfl, by have := HP2.out; have e : (10 : Nat) ^ 20 = 10 ^ 19 * 10 := rfl; rw [e] at this; omega, fun h => (by cases h), by rw [← digit_cells n []]; exact HLIT.out, hbw.alloc hz' _, by rw [← HDL.out, HS.out]⟩
        case measure => simp [intOf, lenOf]; omega
      · obtain rfl : n = 0 := by omega
        clear hf h0 hn9
        have hlit := World.ownsRow_lit (base := w.heap.size) (e := 5) (size := 1) wr #[.int .u8 (48)] 1 hbw.size (by unfold maxLen; omega) rfl
        have HLIT := Lib.hid hlit
        clear hlit
        go_wp2_with (at_builtin; refine wpList_append_own_none _ rfl (.tmp 25) (.tmp 26) _ rfl w.heap.size 5 i0 1 Tryd.underlying35 hi0 _ 1 _ rfl HLIT.out rfl ?_)
        go_roundw
        case rel => exact ⟨0, 19, [48], rfl, by omega, rfl, by decide, fun h => (by cases h), HLIT.out, hbw.alloc hz' _, by rw [← HDL.out, HS.out]; rfl⟩
        case measure => simp [intOf, lenOf]
    · clear hnil
      obtain ⟨g, cap, rfl, hcells⟩ := own_bytesD hown hE
      have hl1 : 1 ≤ acc.length := by
        cases acc with
        | nil => exact absurd rfl hE
        | cons _ _ => simp
      have hl0 : ((acc.length : Int) == 0) = false := by simp; omega
      have HEN := Lib.hid hE
      clear hE
      have hlt := hown.lt g rfl
      by_cases h0 : 0 < (n : Int)
      · obtain ⟨f', rfl⟩ : ∃ f', f = f' + 1 := by
          cases f with
          | zero => have := HP2.out; simp at this; omega
          | succ f' => exact ⟨f', rfl⟩
        have HS := Lib.hid (decLoop_step f' n acc (Or.inl (by omega)))
        have hlit := World.ownsRow_lit (base := wr.heap.size) (e := 5) (size := 1) wr #[.int .u8 (48 + (n : Int) % 10)] 1 (Nat.le_refl _) (by unfold maxLen; omega) rfl
        have HLIT := Lib.hid hlit
        have HC := Lib.hid hcells
        clear hlit hcells
        have hl20 : acc.length ≤ 20 := by omega
        have HL1 : Hid ((Lib.byteCells acc).length = acc.length * 1) := Lib.hid (by simp [Lib.byteCells])
        have HNEWS : Hid (∀ j u, (Lib.byteCells acc)[j]? = some u → (wr.alloc (.cells #[.int .u8 (48 + (n : Int) % 10)] 5)).cell? ((⟨g, 0, none⟩ : Addr).add j) = some u) := Lib.hid (by
          intro j u hu
          have hj : j < acc.length := by
            have := (List.getElem?_eq_some_iff.1 hu).1
            rwa [cells_len] at this
          rw [World.cell?_alloc_lt _ _ _ (by unfold Addr.add; split <;> exact hlt.2), HC.out j hj]
          simp only [Lib.byteCells, List.getElem?_map, List.getElem?_eq_getElem hj, Option.map_some] at hu
          exact hu)
        have HM : Hid (1 + acc.length ≤ maxLen) := Lib.hid (by unfold maxLen; omega)
        have HB : Hid ((1 + acc.length) * 1 ≤ 140737488355328) := Lib.hid (by omega)
        have HS5 : Hid (wr.heap.size ≤ (wr.alloc (.cells #[.int .u8 (48 + (n : Int) % 10)] 5)).heap.size) := Lib.hid (by simp)
        go_wp2_with (at_builtin; refine wpList_append_own _ rfl (.tmp 25) (.tmp 26) _ rfl wr.heap.size 5 i0 (.int .u8 0) 1 1 Tryd.underlying35 hi0 hz0 hz1 hz2 rfl (by decide) _ 1 _ rfl HLIT.out ⟨g, 0, none⟩ acc.length cap (Lib.byteCells acc) rfl HL1.out HNEWS.out one_cell HM.out HB.out HS5.out ?_)
        intro v' w1 hown1 hg1 _hv
        have hbw1 : Below w.heap.size w w1 := (hbw.alloc hz' _).grown hg1 (by simp; omega) (fun k hk => by simp [Value.ownBlock] at hk; omega)
        have hown2 : w1.ownsRow w.heap.size 5 1 v' (1 + acc.length) (Lib.byteCells (UInt8.ofNat (48 + n % 10) :: acc)) := by
          rw [← digit_cells]
          refine ⟨hown1.1, ?_⟩
          rcases hown1.2 with h | ⟨g', cap', cur, e, hb, r⟩
          · exact .inl h
          · exact .inr ⟨g', cap', cur, e, by omega, r⟩
        obtain ⟨g', cap', rfl, _⟩ := own_bytesD hown2 (by simp)
        have HO := Lib.hid hown2
        clear hown1 hown2
        go_wp2
        go_roundw
        case rel => exact ⟨n / 10, f', UInt8.ofNat (48 + n % 10) :: acc, by go_num, by omega, by simp at hf ⊢; omega, by have := HP2.out; rw [Nat.pow_succ] at this; omega, fun h => (by cases h), by rw [len_cons']; exact HO.out, hbw1, by rw [← HDL.out, HS.out]⟩
        case measure => simp [intOf, lenOf]; omega
      · obtain rfl : n = 0 := by omega
        have HE := Lib.hid (decLoop_end f acc HEN.out)
        have HC := Lib.hid hcells
        clear hcells h0 hn9
        have hl20 : acc.length ≤ 20 := by omega
        have HLIT := Lib.hid (World.ownsRow_lit (base := wr.heap.size) (e := 5) (size := 1) wr #[.int .u8 45] 1 (Nat.le_refl _) (by unfold maxLen; omega) rfl)
        have HL1 : Hid ((Lib.byteCells acc).length = acc.length * 1) := Lib.hid (by simp [Lib.byteCells])
        have HNEWS : Hid (∀ j u, (Lib.byteCells acc)[j]? = some u → (wr.alloc (.cells #[.int .u8 (45)] 5)).cell? ((⟨g, 0, none⟩ : Addr).add j) = some u) := Lib.hid (by
          intro j u hu
          have hj : j < acc.length := by
            have := (List.getElem?_eq_some_iff.1 hu).1
            rwa [cells_len] at this
          rw [World.cell?_alloc_lt _ _ _ (by unfold Addr.add; split <;> exact hlt.2), HC.out j hj]
          simp only [Lib.byteCells, List.getElem?_map, List.getElem?_eq_getElem hj, Option.map_some] at hu
          exact hu)
        have HM : Hid (1 + acc.length ≤ maxLen) := Lib.hid (by unfold maxLen; omega)
        have HB : Hid ((1 + acc.length) * 1 ≤ 140737488355328) := Lib.hid (by omega)
        have HS5 : Hid (wr.heap.size ≤ (wr.alloc (.cells #[.int .u8 (45)] 5)).heap.size) := Lib.hid (by simp)
        go_wp2_with (at_builtin; go_loud (refine wpList_append_own _ rfl (.tmp 32) (.tmp 33) _ rfl wr.heap.size 5 i0 (.int .u8 0) 1 1 Tryd.underlying35 hi0 hz0 hz1 hz2 rfl (by decide) _ 1 _ rfl HLIT.out ⟨g, 0, none⟩ acc.length cap (Lib.byteCells acc) rfl HL1.out HNEWS.out one_cell HM.out HB.out HS5.out ?_))
        intro v' w1 hown1 hg1 _hv
        have hbw1 : Below w.heap.size w w1 := (hbw.alloc hz' _).grown hg1 (by simp; omega) (fun k hk => by simp [Value.ownBlock] at hk; omega)
        have hown2 : w1.ownsRow wr.heap.size 5 1 v' (1 + acc.length) (Lib.byteCells (45 :: acc)) := hown1
        obtain ⟨g', cap', rfl, hc2⟩ := own_bytesD hown2 (by simp)
        have hcv := run_convert_bytes_back (P := Tryd.prog) w1 35 9 5 ⟨g', 0, none⟩ cap' (45 :: acc) Tryd.underlying35 Tryd.underlying5 Tryd.underlying9 hc2
        have el : (45 :: acc).length = 1 + acc.length := by rw [List.length_cons, Nat.add_comm]
        rw [el] at hcv
        clear hown1 hown2 hc2
        go_wp2
        go_ret
        exact ⟨ret_str (by rw [HD.out, ← HDL.out, HE.out]), hbw1⟩

set_option maxHeartbeats 4000000 in
theorem decimal_pos (a : Int) (wa : -9223372036854775808 ≤ a) (wa' : a ≤ 9223372036854775807) (hneg : ¬ a < 0) (w : World) :
    Calls Tryd.prog 22 #[.int .i64 a] w fun e w' => e = .returned (.string ⟨(decB a).toArray⟩) ∧ Below w.heap.size w w' := by
  obtain ⟨i0, hi0, hz0, hz1, hz2⟩ := info_parts info8
  have HD : Hid (decB a = digs a.natAbs) := Lib.hid (by unfold decB; rw [if_neg hneg]; rfl)
  have HA : Hid (a = ((a.natAbs : Nat) : Int)) := Lib.hid (by omega)
  have hA9 : ((a.natAbs : Nat) : Int) ≤ 9223372036854775808 := by omega
  have HP : Hid (a.natAbs < 10 ^ 20) := Lib.hid (Nat.lt_of_lt_of_le (by omega) pow10)
  go_enter Tryd.func22, Tryd.ntmps22
  go_wp2_with fail
  rw [HA.out]
  go_loopw [3, 4] (fun sz out wr => ∃ (n f : Nat) (acc : List UInt8), sz = .int .u64 (n : Int) ∧ (n : Int) ≤ 9223372036854775808 ∧ acc.length + f = 20 ∧ n < 10 ^ f ∧ (acc = [] → out = .slice none 0 0) ∧ wr.ownsRow w.heap.size 5 1 out acc.length (Lib.byteCells acc) ∧ Below w.heap.size w wr ∧ decLoop f n acc = digs a.natAbs) (fun sz out _ => 2 * (intOf sz).toNat + (if lenOf out = 0 then 1 else 0))
  case atStart => exact ⟨a.natAbs, 20, [], rfl, hA9, rfl, HP.out, fun _ => rfl, World.ownsRow_nil _ _ _ _, Below.refl _ w, rfl⟩
  case round =>
    obtain ⟨n, f, acc, rfl, hn9, hf, hp, hnil, hown, hbw, hd⟩ := hrel
    have HDL := Lib.hid hd
    have HP2 := Lib.hid hp
    clear hd hp
    have hz' := hbw.size
    by_cases hE : acc = []
    · subst hE
      obtain rfl := hnil rfl
      clear hnil
      obtain rfl : f = 20 := by simpa using hf
      have HS := Lib.hid (decLoop_step 19 n [] (Or.inr rfl))
      by_cases h0 : 0 < (n : Int)
      · clear hf
        have hlit := World.ownsRow_lit (base := w.heap.size) (e := 5) (size := 1) wr #[.int .u8 (48 + (n : Int) % 10)] 1 hbw.size (by unfold maxLen; omega) rfl
        have HLIT := Lib.hid hlit
        clear hlit
        go_wp2_with (at_builtin; refine wpList_append_own_none _ rfl (.tmp 25) (.tmp 26) _ rfl w.heap.size 5 i0 1 Tryd.underlying35 hi0 _ 1 _ rfl HLIT.out rfl ?_)
        go_roundw
        case rel => exact ⟨n / 10, 19, [UInt8.ofNat (48 + n % 10)], by go_num, by omega, rfl, by have := HP2.out; have e : (10 : Nat) ^ 20 = 10 ^ 19 * 10 := rfl; rw [e] at this; omega, fun h => (by cases h), by rw [← digit_cells n []]; exact HLIT.out, hbw.alloc hz' _, by rw [← HDL.out, HS.out]⟩
        case measure => simp [intOf, lenOf]; omega
      · obtain rfl : n = 0 := by omega
        clear hf h0 hn9
        have hlit := World.ownsRow_lit (base := w.heap.size) (e := 5) (size := 1) wr #[.int .u8 (48)] 1 hbw.size (by unfold maxLen; omega) rfl
        have HLIT := Lib.hid hlit
        clear hlit
        go_wp2_with (at_builtin; refine wpList_append_own_none _ rfl (.tmp 25) (.tmp 26) _ rfl w.heap.size 5 i0 1 Tryd.underlying35 hi0 _ 1 _ rfl HLIT.out rfl ?_)
        go_roundw
        case rel => exact ⟨0, 19, [48], rfl, by omega, rfl, by decide, fun h => (by cases h), HLIT.out, hbw.alloc hz' _, by rw [← HDL.out, HS.out]; rfl⟩
        case measure => simp [intOf, lenOf]
    · clear hnil
      obtain ⟨g, cap, rfl, hcells⟩ := own_bytesD hown hE
      have hl1 : 1 ≤ acc.length := by
        cases acc with
        | nil => exact absurd rfl hE
        | cons _ _ => simp
      have hl0 : ((acc.length : Int) == 0) = false := by simp; omega
      have HEN := Lib.hid hE
      clear hE
      have hlt := hown.lt g rfl
      by_cases h0 : 0 < (n : Int)
      · obtain ⟨f', rfl⟩ : ∃ f', f = f' + 1 := by
          cases f with
          | zero => have := HP2.out; simp at this; omega
          | succ f' => exact ⟨f', rfl⟩
        have HS := Lib.hid (decLoop_step f' n acc (Or.inl (by omega)))
        have hlit := World.ownsRow_lit (base := wr.heap.size) (e := 5) (size := 1) wr #[.int .u8 (48 + (n : Int) % 10)] 1 (Nat.le_refl _) (by unfold maxLen; omega) rfl
        have HLIT := Lib.hid hlit
        have HC := Lib.hid hcells
        clear hlit hcells
        have hl20 : acc.length ≤ 20 := by omega
        have HL1 : Hid ((Lib.byteCells acc).length = acc.length * 1) := Lib.hid (by simp [Lib.byteCells])
        have HNEWS : Hid (∀ j u, (Lib.byteCells acc)[j]? = some u → (wr.alloc (.cells #[.int .u8 (48 + (n : Int) % 10)] 5)).cell? ((⟨g, 0, none⟩ : Addr).add j) = some u) := Lib.hid (by
          intro j u hu
          have hj : j < acc.length := by
            have := (List.getElem?_eq_some_iff.1 hu).1
            rwa [cells_len] at this
          rw [World.cell?_alloc_lt _ _ _ (by unfold Addr.add; split <;> exact hlt.2), HC.out j hj]
          simp only [Lib.byteCells, List.getElem?_map, List.getElem?_eq_getElem hj, Option.map_some] at hu
          exact hu)
        have HM : Hid (1 + acc.length ≤ maxLen) := Lib.hid (by unfold maxLen; omega)
        have HB : Hid ((1 + acc.length) * 1 ≤ 140737488355328) := Lib.hid (by omega)
        have HS5 : Hid (wr.heap.size ≤ (wr.alloc (.cells #[.int .u8 (48 + (n : Int) % 10)] 5)).heap.size) := Lib.hid (by simp)
        go_wp2_with (at_builtin; refine wpList_append_own _ rfl (.tmp 25) (.tmp 26) _ rfl wr.heap.size 5 i0 (.int .u8 0) 1 1 Tryd.underlying35 hi0 hz0 hz1 hz2 rfl (by decide) _ 1 _ rfl HLIT.out ⟨g, 0, none⟩ acc.length cap (Lib.byteCells acc) rfl HL1.out HNEWS.out one_cell HM.out HB.out HS5.out ?_)
        intro v' w1 hown1 hg1 _hv
        have hbw1 : Below w.heap.size w w1 := (hbw.alloc hz' _).grown hg1 (by simp; omega) (fun k hk => by simp [Value.ownBlock] at hk; omega)
        have hown2 : w1.ownsRow w.heap.size 5 1 v' (1 + acc.length) (Lib.byteCells (UInt8.ofNat (48 + n % 10) :: acc)) := by
          rw [← digit_cells]
          refine ⟨hown1.1, ?_⟩
          rcases hown1.2 with h | ⟨g', cap', cur, e, hb, r⟩
          · exact .inl h
          · exact .inr ⟨g', cap', cur, e, by omega, r⟩
        obtain ⟨g', cap', rfl, _⟩ := own_bytesD hown2 (by simp)
        have HO := Lib.hid hown2
        clear hown1 hown2
        go_wp2
        go_roundw
        case rel => exact ⟨n / 10, f', UInt8.ofNat (48 + n % 10) :: acc, by go_num, by omega, by simp at hf ⊢; omega, by have := HP2.out; rw [Nat.pow_succ] at this; omega, fun h => (by cases h), by rw [len_cons']; exact HO.out, hbw1, by rw [← HDL.out, HS.out]⟩
        case measure => simp [intOf, lenOf]; omega
      · obtain rfl : n = 0 := by omega
        have HE := Lib.hid (decLoop_end f acc HEN.out)
        have HC := Lib.hid hcells
        clear hcells h0 hn9
        have hl20 : acc.length ≤ 20 := by omega
        have hcv := run_convert_bytes_back (P := Tryd.prog) wr 35 9 5 ⟨g, 0, none⟩ cap acc Tryd.underlying35 Tryd.underlying5 Tryd.underlying9 HC.out
        go_wp2
        go_ret
        exact ⟨ret_str (by rw [HD.out, ← HDL.out, HE.out]), hbw⟩

theorem decimal_any (a : Int) (wa : -9223372036854775808 ≤ a) (wa' : a ≤ 9223372036854775807) (w : World) :
    Calls Tryd.prog 22 #[.int .i64 a] w fun e w' => e = .returned (.string ⟨(decB a).toArray⟩) ∧ Below w.heap.size w w' := by
  by_cases h : a < 0
  · exact decimal_neg a wa wa' h w
  · exact decimal_pos a wa wa' h w
end
end Go.Proofs.YthljgiimdcbfpaaDoor
