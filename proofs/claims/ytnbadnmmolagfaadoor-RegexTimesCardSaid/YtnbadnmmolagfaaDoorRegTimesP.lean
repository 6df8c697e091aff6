/- Package regex in plain Lean: a letter with a quantifier of two numbers. -/
import Derived.Test.YtnbadnmmolagfaaDoorRegJoinR
import Derived.Test.YtnbadnmmolagfaaDoorRegAwake
import Derived.Test.YtnbadnmmolagfaaDoorDecPlain
namespace Go.Proofs.YtnbadnmmolagfaaDoor
set_option linter.unusedVariables false
set_option linter.unusedSimpArgs false
set_option maxRecDepth 100000

/-- What digits tell. -/
def valL : Ln → Nat
  | [] => 0
  | c :: r => (c.toNat - 48) * 10 ^ r.length + valL r
def Digs (l : Ln) : Prop := ∀ c ∈ l, dig8 c = true
theorem dig_bd {c : UInt8} (h : dig8 c = true) : 48 ≤ c.toNat ∧ c.toNat ≤ 57 := by
  unfold dig8 digitB at h
  simpa using h
theorem val_lt : ∀ (l : Ln), Digs l → valL l < 10 ^ l.length
  | [], _ => by decide
  | c :: r, h => by
    have h1 := dig_bd (h c (by simp))
    have h2 := val_lt r (fun x hx => h x (by simp [hx]))
    unfold valL
    rw [List.length_cons, Nat.pow_succ]
    have h3 : (c.toNat - 48) ≤ 9 := by omega
    have h4 : (c.toNat - 48) * 10 ^ r.length ≤ 9 * 10 ^ r.length := Nat.mul_le_mul_right _ h3
    omega
theorem val_app : ∀ (p q : Ln), valL (p ++ q) = valL p * 10 ^ q.length + valL q
  | [], q => by simp [valL]
  | c :: p, q => by
    simp only [List.cons_append, valL, List.length_append]
    rw [val_app p q, Nat.pow_add, Nat.add_mul]
    rw [Nat.mul_assoc, Nat.add_assoc]
theorem val_trim : ∀ (p : Ln), valL (Lib.trimLeftB p 48) = valL p
  | [] => rfl
  | c :: p => by
    unfold Lib.trimLeftB
    rw [List.dropWhile_cons]
    split
    · rename_i h
      have : c = 48 := eq_of_beq h
      subst this
      have := val_trim p
      unfold Lib.trimLeftB at this
      rw [this]
      simp [valL]
    · rfl
theorem trim_digs {p : Ln} (h : Digs p) : Digs (Lib.trimLeftB p 48) := fun c hc => h c (List.dropWhile_subset _ hc)
theorem trim_head (p : Ln) : Lib.trimLeftB p 48 = [] ∨ ∃ c r, Lib.trimLeftB p 48 = c :: r ∧ c ≠ 48 := by
  induction p with
  | nil => exact .inl rfl
  | cons c p ih =>
    unfold Lib.trimLeftB at ih ⊢
    rw [List.dropWhile_cons]
    split
    · exact ih
    · rename_i h
      exact .inr ⟨c, p, rfl, by simpa using h⟩
theorem lss_val : ∀ (p q : Ln), Digs p → Digs q → p.length = q.length → lssL p q = decide (valL p < valL q)
  | [], [], _, _, _ => by simp [lssL, valL]
  | [], _ :: _, _, _, h => by cases h
  | _ :: _, [], _, _, h => by cases h
  | a :: x, b :: y, hp, hq, h => by
    have hl : x.length = y.length := by simpa using h
    have ih := lss_val x y (fun c hc => hp c (by simp [hc])) (fun c hc => hq c (by simp [hc])) hl
    have hx := val_lt x (fun c hc => hp c (by simp [hc]))
    have hy := val_lt y (fun c hc => hq c (by simp [hc]))
    have ha := dig_bd (hp a (by simp))
    have hb := dig_bd (hq b (by simp))
    unfold lssL valL
    rw [ih, hl]
    rw [hl] at hx
    have e1 : decide (a < b) = decide (a.toNat < b.toNat) := by simp [UInt8.lt_iff_toNat_lt]
    have e2 : (a == b) = decide (a.toNat = b.toNat) := by
      rw [Bool.eq_iff_iff]
      simp [UInt8.toNat_inj]
    rw [e1, e2]
    obtain ⟨m, hm⟩ : ∃ m, a.toNat - 48 = m := ⟨_, rfl⟩
    obtain ⟨n, hn⟩ : ∃ n, b.toNat - 48 = n := ⟨_, rfl⟩
    obtain ⟨P, hP⟩ : ∃ P, 10 ^ y.length = P := ⟨_, rfl⟩
    rw [hP] at hx hy ⊢
    rw [hm, hn]
    rcases Nat.lt_trichotomy m n with hmn | hmn | hmn
    · have h1 : decide (a.toNat < b.toNat) = true := by simp; omega
      have h2 : (m + 1) * P ≤ n * P := Nat.mul_le_mul_right _ hmn
      rw [Nat.add_mul] at h2
      rw [h1]
      simp
      omega
    · have h1 : decide (a.toNat < b.toNat) = false := by simp; omega
      have h2 : decide (a.toNat = b.toNat) = true := by simp; omega
      rw [h1, h2, hmn]
      simp
    · have h1 : decide (a.toNat < b.toNat) = false := by simp; omega
      have h2 : decide (a.toNat = b.toNat) = false := by simp; omega
      have h3 : (n + 1) * P ≤ m * P := Nat.mul_le_mul_right _ hmn
      rw [Nat.add_mul] at h3
      rw [h1, h2]
      simp
      omega
/-- No nought ahead. -/
def NoLead (p : Ln) : Prop := p = [] ∨ ∃ c r, p = c :: r ∧ c ≠ 48
theorem val_ge {p : Ln} (h : NoLead p) (hd : Digs p) (h0 : 0 < p.length) : 10 ^ (p.length - 1) ≤ valL p := by
  rcases h with rfl | ⟨c, r, rfl, hc⟩
  · simp at h0
  · have := dig_bd (hd c (by simp))
    have hc' : c.toNat ≠ 48 := fun he => hc (UInt8.toNat_inj.1 he)
    unfold valL
    have h1 : 1 * 10 ^ r.length ≤ (c.toNat - 48) * 10 ^ r.length := Nat.mul_le_mul_right _ (by omega)
    simp only [List.length_cons, Nat.add_sub_cancel]
    omega
theorem below_val {p q : Ln} (hp : NoLead p) (hq : NoLead q) (dp : Digs p) (dq : Digs q) : belowL p q = decide (valL p < valL q) := by
  unfold belowL
  have lp := val_lt p dp
  have lq := val_lt q dq
  rcases Nat.lt_trichotomy p.length q.length with h | h | h
  · have h1 := val_ge hq dq (by omega)
    have h2 : 10 ^ p.length ≤ 10 ^ (q.length - 1) := Nat.pow_le_pow_right (by decide) (by omega)
    have h3 : decide (p.length < q.length) = true := by simpa using h
    rw [h3]
    simp
    omega
  · have h3 : decide (p.length < q.length) = false := by simp; omega
    have h4 : (p.length == q.length) = true := by simpa using h
    rw [h3, h4, lss_val p q dp dq h]
    simp
  · have h1 := val_ge hp dp (by omega)
    have h2 : 10 ^ q.length ≤ 10 ^ (p.length - 1) := Nat.pow_le_pow_right (by decide) (by omega)
    have h3 : decide (p.length < q.length) = false := by simp; omega
    have h4 : (p.length == q.length) = false := by simp; omega
    rw [h3, h4]
    simp
    omega

theorem dec_val : ∀ (f n : Nat) (acc : Ln), n < 10 ^ f → valL (decLoop f n acc) = n * 10 ^ acc.length + valL acc
  | 0, n, acc, h => by
    have : n = 0 := by simpa using h
    subst this
    show valL acc = _
    omega
  | f + 1, n, acc, h => by
    by_cases hc : 0 < n ∨ acc = []
    · rw [decLoop_step f n acc hc, dec_val f (n / 10) _ (by rw [Nat.pow_succ] at h; omega)]
      have h10 : n % 10 < 10 := Nat.mod_lt _ (by decide)
      have e : (UInt8.ofNat (48 + n % 10)).toNat - 48 = n % 10 := by simp; omega
      simp only [valL, List.length_cons, e]
      rw [Nat.pow_succ]
      have e2 : n / 10 * (10 ^ acc.length * 10) = (n / 10 * 10) * 10 ^ acc.length := by rw [Nat.mul_comm (10 ^ acc.length) 10, ← Nat.mul_assoc]
      have e3 : n * 10 ^ acc.length = (n / 10 * 10) * 10 ^ acc.length + n % 10 * 10 ^ acc.length := by
        rw [← Nat.add_mul]
        congr 1
        omega
      omega
    · have h0 : n = 0 := by omega
      subst h0
      show valL (if _ then _ else _) = _
      rw [if_neg hc]
      omega
theorem dec_digs : ∀ (f n : Nat) (acc : Ln), Digs acc → Digs (decLoop f n acc)
  | 0, _, acc, h => h
  | f + 1, n, acc, h => by
    by_cases hc : 0 < n ∨ acc = []
    · rw [decLoop_step f n acc hc]
      refine dec_digs f _ _ ?_
      intro c hc
      rcases List.mem_cons.1 hc with rfl | hc
      · have h10 : n % 10 < 10 := Nat.mod_lt _ (by decide)
        unfold dig8 digitB
        simp
        omega
      · exact h c hc
    · show Digs (if _ then _ else _)
      rw [if_neg hc]
      exact h
theorem dec_size : ∀ (f n : Nat) (acc : Ln), (decLoop f n acc).length ≤ f + acc.length
  | 0, _, acc => by show acc.length ≤ _; omega
  | f + 1, n, acc => by
    by_cases hc : 0 < n ∨ acc = []
    · rw [decLoop_step f n acc hc]
      have := dec_size f (n / 10) (UInt8.ofNat (48 + n % 10) :: acc)
      simp only [List.length_cons] at this
      omega
    · show (if _ then _ else _ : Ln).length ≤ _
      rw [if_neg hc]
      omega
theorem dec_some (n : Nat) : decB (n : Int) ≠ [] := by
  obtain ⟨pre, d, _, e⟩ := decB_last (n : Int)
  rw [e]; simp
theorem decB_nat (n : Nat) : decB (n : Int) = digs n := by
  unfold decB
  rw [if_neg (by omega)]
  simp
theorem decB_val {n : Nat} (h : n < 10 ^ 20) : valL (decB (n : Int)) = n := by
  rw [decB_nat]
  unfold digs
  rw [dec_val 20 n [] h]
  simp [valL]
theorem decB_digs (n : Nat) : Digs (decB (n : Int)) := by
  rw [decB_nat]
  exact dec_digs 20 n [] (by intro c hc; cases hc)
theorem decB_size (n : Nat) : (decB (n : Int)).length ≤ 20 := by
  rw [decB_nat]
  have := dec_size 20 n []
  simpa [digs] using this
theorem digits_on {p r : Ln} {c : UInt8} (hp : p ≠ []) (hd : Digs p) (hc : dig8 c = false) : digitsL (p ++ c :: r) = .ok (Lib.trimLeftB p 48, c :: r) := by
  have h1 : (p ++ c :: r).takeWhile dig8 = p := by
    rw [List.takeWhile_append_of_pos hd, List.takeWhile_cons_of_neg (by rw [hc]; decide), List.append_nil]
  have h2 : (p ++ c :: r).dropWhile dig8 = c :: r := by
    rw [List.dropWhile_append_of_pos hd, List.dropWhile_cons_of_neg (by rw [hc]; decide)]
  unfold digitsL
  rw [h1, h2, if_neg hp]
theorem take_a (r : Ln) : takeL (97 :: r) = .ok (97, r) := by
  unfold takeL nextL
  rw [if_neg (by simp : ¬ (97 :: r = [])), Lib.decodeL_ascii 97 r (by decide)]
  have : endsB 97 = false := by decide
  simp [this]
theorem term_a (u : Bool) (pat : St → Except Flt St) (r : Ln) (g : Nat) : termS u pat (pl (97 :: r) g) = (quantL r >>= fun r1 => .ok (pl r1 g)) := by
  unfold termS
  simp only []
  rw [hasP_ne _ _ (by decide), hasP_ne _ _ (by decide), hasP_ne _ _ (by decide), hasP_ne _ _ (by decide), hasP_ne _ _ (by decide), hasP_ne _ _ (by decide), hasP_ne _ _ (by decide), hasP_ne _ _ (by decide)]
  simp only [Bool.false_eq_true, if_false]
  have : atomS u pat (pl (97 :: r) g) = .ok (pl r g) := by
    unfold atomS
    simp only []
    rw [hasP_ne _ _ (by decide), hasP_ne _ _ (by decide), hasP_ne _ _ (by decide), hasP_ne _ _ (by decide)]
    simp only [Bool.false_eq_true, if_false]
    rw [if_neg (by show ¬ (97 = 92); omega), if_neg (by rw [show (decide (peekL (97 :: r) ≠ 0) && List.contains stopChars ((97 :: r).getD 0 0)) = false from rfl]; decide), take_a]
    rfl
  rw [this]
  rfl
theorem body_a_ok {u : Bool} {r : Ln} (h : quantL r = .ok []) : bodyL u (97 :: r) = .ok () := by
  refine body_of (d := 0) ?_
  have ht : termS u (patF u (r.length + 1)) (pl (97 :: r) 0) = .ok (pl [] 0) := by rw [term_a, h]; rfl
  rw [List.length_cons, pat_go (by decide) (by decide) ht]
  exact pat_nil
theorem body_a_no {u : Bool} {r : Ln} {e : Flt} (h : quantL r = .error e) : bodyL u (97 :: r) = .error e := by
  unfold bodyL
  have ht : termS u (patF u (r.length + 1)) (pl (97 :: r) 0) = .error e := by rw [term_a, h]; rfl
  have hp : patF u (r.length + 1 + 1) (pl (97 :: r) 0) = .error e := by
    unfold patF
    simp only []
    rw [if_neg (by simp), if_neg (by show ¬ (97 = 124); omega), if_neg (by show ¬ (97 = 41); omega), ht]
  rw [List.length_cons, hp]
  rfl
def nines : Ln := [57, 57, 57, 57, 57, 57, 57, 57, 57, 57, 57, 57, 57, 57, 57, 57, 57, 57, 57, 57]
theorem quant_123 (r : Ln) : quantL (123 :: r) = bracesL (123 :: r) r := by
  unfold quantL
  rw [hasP_ne _ _ (by decide), hasP_ne _ _ (by decide), hasP_ne _ _ (by decide), hasP_eq]
  rfl
theorem wantL_on (w : UInt8) (r : Ln) : wantL [w] (w :: r) = .ok r := by
  unfold wantL
  rw [hasP_eq]
  rfl
/-- Two numbers. -/
theorem quant_two {p q : Ln} (hp : p ≠ []) (hq : q ≠ []) (dp : Digs p) (dq : Digs q) :
    quantL (123 :: (p ++ 44 :: (q ++ [125, 63]))) = if valL q < valL p then .error (403, (123 :: (p ++ 44 :: (q ++ [125, 63]))).length) else .ok [] := by
  rw [quant_123]
  unfold bracesL
  rw [digits_on hp dp (by decide), ok_bind]
  simp only []
  rw [if_pos (by rfl)]
  have hd : digitB (peekL ((44 :: (q ++ [125, 63])).drop 1)) = true := by
    cases q with
    | nil => exact absurd rfl hq
    | cons c q => exact dq c (by simp)
  rw [if_pos hd]
  show (digitsL (q ++ 125 :: [63]) >>= _) = _
  rw [digits_on hq dq (by decide), ok_bind]
  simp only []
  rw [wantL_on, ok_bind, below_val (trim_head q) (trim_head p) (trim_digs dq) (trim_digs dp), val_trim, val_trim]
  by_cases h : valL q < valL p
  · rw [if_pos h, if_pos (by simpa using h)]
  · rw [if_neg h, if_neg (by simpa using h)]
    rfl
theorem quant_one {p : Ln} (hp : p ≠ []) (dp : Digs p) : quantL (123 :: (p ++ [125])) = .ok [] := by
  rw [quant_123]
  unfold bracesL
  rw [digits_on hp dp (by decide), ok_bind]
  rfl
theorem quant_open {p : Ln} (hp : p ≠ []) (dp : Digs p) : quantL (123 :: (p ++ [44, 125])) = .ok [] := by
  rw [quant_123]
  unfold bracesL
  rw [digits_on hp dp (by decide), ok_bind]
  rfl
theorem check_ok {l fl : Ln} {s : Nat} (hf : flagsN fl 0 = some s) (hl : l.length ≤ 4096) (h0 : l ≠ []) (h : bodyL (s / 32 % 2 == 1) l = .ok ()) : checkN l fl = (0, 0) := by
  unfold checkN
  rw [hf]
  simp only []
  rw [if_neg (by omega), if_neg h0, h]
theorem check_no {l fl : Ln} {s : Nat} {e : Flt} (hf : flagsN fl 0 = some s) (hl : l.length ≤ 4096) (h0 : l ≠ []) (h : bodyL (s / 32 % 2 == 1) l = .error e) : checkN l fl = ((l.length : Int) - (e.2 : Int), e.1) := by
  unfold checkN
  rw [hf]
  simp only []
  rw [if_neg (by omega), if_neg h0, h]
def timesL (z a b : Nat) : Ln := 97 :: 123 :: ((List.replicate z 48 ++ decB (a : Int) ++ nines) ++ 44 :: ((decB (b : Int) ++ nines) ++ [125, 63]))
def onceL (a : Nat) : Ln := 97 :: 123 :: (decB (a : Int) ++ [125])
def leastL (a : Nat) : Ln := 97 :: 123 :: (decB (a : Int) ++ [44, 125])
theorem once_is (a : Nat) : checkN (onceL a) [117] = (0, 0) := by
  have := decB_size a
  exact check_ok (s := 32) (by decide) (by simp [onceL]; omega) (by simp [onceL]) (body_a_ok (quant_one (dec_some a) (decB_digs a)))
theorem least_is (a : Nat) : checkN (leastL a) [] = (0, 0) := by
  have := decB_size a
  exact check_ok (s := 0) (by decide) (by simp [leastL]; omega) (by simp [leastL]) (body_a_ok (quant_open (dec_some a) (decB_digs a)))
theorem nines_digs : Digs nines := by
  intro c hc
  simp [nines] at hc
  subst hc
  decide
theorem val_noughts : ∀ (z : Nat) (p : Ln), valL (List.replicate z 48 ++ p) = valL p
  | 0, p => rfl
  | z + 1, p => by
    rw [List.replicate_succ, List.cons_append]
    show (48 - 48) * 10 ^ _ + valL (List.replicate z 48 ++ p) = _
    rw [val_noughts z p]
    simp
theorem times_is {z a b : Nat} (hz : z ≤ 7) (ha : a ≤ 65535) (hb : b ≤ 65535) : checkN (timesL z a b) [] = if a ≤ b then (0, 0) else (1, 403) := by
  have s1 := decB_size a
  have s2 := decB_size b
  have hl : (timesL z a b).length ≤ 4096 := by simp [timesL, nines]; omega
  have p1 : (List.replicate z 48 ++ decB (a : Int) ++ nines) ≠ [] := by simp [nines]
  have p2 : (decB (b : Int) ++ nines) ≠ [] := by simp [nines]
  have d1 : Digs (List.replicate z 48 ++ decB (a : Int) ++ nines) := by
    intro c hc
    simp only [List.mem_append] at hc
    rcases hc with (hc | hc) | hc
    · rw [(List.mem_replicate.1 hc).2]; decide
    · exact decB_digs a c hc
    · exact nines_digs c hc
  have d2 : Digs (decB (b : Int) ++ nines) := by
    intro c hc
    simp only [List.mem_append] at hc
    rcases hc with hc | hc
    · exact decB_digs b c hc
    · exact nines_digs c hc
  have v1 : valL (List.replicate z 48 ++ decB (a : Int) ++ nines) = a * 10 ^ 20 + 99999999999999999999 := by
    rw [List.append_assoc, val_noughts, val_app, decB_val (Nat.lt_of_le_of_lt ha (by decide))]; rfl
  have v2 : valL (decB (b : Int) ++ nines) = b * 10 ^ 20 + 99999999999999999999 := by
    rw [val_app, decB_val (Nat.lt_of_le_of_lt hb (by decide))]; rfl
  have hq := quant_two p1 p2 d1 d2
  rw [v1, v2] at hq
  by_cases h : a ≤ b
  · rw [if_pos h]
    rw [if_neg (by omega)] at hq
    exact check_ok (s := 0) (by decide) hl (by simp [timesL]) (body_a_ok hq)
  · rw [if_neg h]
    rw [if_pos (by omega)] at hq
    have := check_no (s := 0) (l := timesL z a b) (fl := []) (by decide) hl (by simp [timesL]) (body_a_no hq)
    rw [this]
    simp [timesL]
    omega
end Go.Proofs.YtnbadnmmolagfaaDoor
