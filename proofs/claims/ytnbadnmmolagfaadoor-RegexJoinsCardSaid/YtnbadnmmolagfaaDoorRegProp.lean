/- Package regex: property. -/
import Derived.Test.YtnbadnmmolagfaaDoorRegName
namespace Go.Proofs.YtnbadnmmolagfaaDoor
open Go.RowKit
set_option maxRecDepth 100000
set_option linter.unusedVariables false
set_option linter.unusedSimpArgs false

/-- What the library's calls ask of the world: its tables, and a number in its variable MaxLen. -/
def Env (w : World) : Prop := Tabs w ∧ ∃ m, w.cell? ⟨0, 0, none⟩ = some (.int .i64 m)
theorem Env.grown {w w' : World} {b : Nat} (h : Env w) (hg : w.grownBy w' (some b)) (hb : 2 < b) : Env w' := by
  obtain ⟨hT, m, hm⟩ := h
  exact ⟨grown_tabs hg hT (by omega) hb, m, hg.cell hm (by simp; omega)⟩
theorem Env.below {w w' : World} (h : Env w) (hg : Below w.heap.size w w') : Env w' := by
  obtain ⟨hT, m, hm⟩ := h
  exact ⟨hT.below hg, m, (hg.cell (World.block_lt_of_cell? w _ hm)).trans hm⟩
theorem Env.drew {w : World} (h : Env w) (n : Nat) : Env (w.drewN n) := h

theorem strOf_append (a b : Ln) : strOf a ++ strOf b = strOf (a ++ b) := by
  apply ByteArray.ext
  simp [strOf]
theorem str_nil (x : Ln) : (strOf x).toList.isEmpty = x.isEmpty := by
  rw [Lib.toList_data, strOf_list]
theorem contains_any (s sub : Ln) (w : World) (hE : Env w) (hs : s.length ≤ 100000) :
    Calls Tryd.prog 60 #[.string (strOf s), .string (strOf sub)] w fun e w' => e = .returned (.bool (Lib.contains s sub)) ∧ w' = w := by
  obtain ⟨_, m, hm⟩ := hE
  have := Tryd.strings_Contains (strOf s) (strOf sub) m w (by rw [strOf_size]; omega) hm
  rw [strOf_list, strOf_list] at this
  exact this

set_option maxHeartbeats 4000000 in
theorem among_any (x of : Ln) (w : World) (hE : Env w) (hx : x.length ≤ 4096) (ho : of.length ≤ 4096) :
    Calls Tryd.prog 59 #[.string (strOf x), .string (strOf of)] w fun e w' => e = .returned (.bool (amongL x of)) ∧ w' = w := by
  have hn := str_nil x
  have H1 := Lib.hid (contains_any x [32] w hE (by omega))
  have H2 := Lib.hid (contains_any of ([32] ++ x ++ [32]) w hE (by omega))
  have hs1 : (strOf [32] ++ strOf x).size = 1 + x.length := by rw [strOf_append, strOf_size]; simp; omega
  have hs2 := strOf_size x
  have ha : strOf [32] ++ strOf x ++ strOf [32] = strOf ([32] ++ x ++ [32]) := by rw [strOf_append, strOf_append]
  unfold amongL
  cases h0 : x.isEmpty
  · rw [h0] at hn
    cases h1 : Lib.contains x [32]
    · rw [h1] at H1
      clear h0 h1 hE
      have hA := Lib.hid ha
      clear ha
      go_enter Tryd.func59, Tryd.ntmps59
      go_wp2_with (go_at_call 60; refine H1.out.mono ?_; rintro e w1 ⟨rfl, rfl⟩)
      rw [show (⟨#[32]⟩ : ByteArray) ++ strOf x ++ ⟨#[32]⟩ = strOf ([32] ++ x ++ [32]) from hA.out]
      refine H2.out.mono ?_
      rintro e w2 ⟨rfl, rfl⟩
      go_wp2_with fail
      go_ret
      exact ⟨rfl, rfl⟩
    · rw [h1] at H1
      clear h0 h1 hE
      go_enter Tryd.func59, Tryd.ntmps59
      go_wp2_with (go_at_call 60; refine H1.out.mono ?_; rintro e w1 ⟨rfl, rfl⟩)
      go_ret
      exact ⟨rfl, rfl⟩
  · rw [h0] at hn
    clear h0 hE
    go_enter Tryd.func59, Tryd.ntmps59
    go_wp2_with fail
    go_ret
    exact ⟨rfl, rfl⟩

theorem cut_size (s sep : Ln) : (Lib.cut s sep).1.length ≤ s.length ∧ (Lib.cut s sep).2.1.length ≤ s.length := by
  unfold Lib.cut
  split
  · simp only [List.length_take, List.length_drop]
    omega
  · simp
set_option maxHeartbeats 4000000 in
theorem property_any (x : Ln) (w : World) (hE : Env w) (hx : x.length ≤ 4096) :
    Calls Tryd.prog 51 #[.string (strOf x)] w fun e w' => e = .returned (.bool (propertyL x)) ∧ ∃ n, w' = w.drewN n := by
  obtain ⟨hT, m, hm⟩ := hE
  have hE : Env w := ⟨hT, m, hm⟩
  have HC := Tryd.strings_Cut (strOf x) ⟨#[61]⟩ m w (by rw [strOf_size]; omega) hm
  rw [strOf_list] at HC
  have hcs := cut_size x [61]
  obtain ⟨a, b, y, hc⟩ : ∃ a b y, Lib.cut x [61] = (a, b, y) := ⟨_, _, _, rfl⟩
  have hP : propertyL x = (if y = false then amongL x (catsL ++ loneL) else if amongL a gcL then amongL b catsL else amongL a scL && amongL b scriptsL) := by
    unfold propertyL
    rw [hc]
  rw [show (⟨#[61]⟩ : ByteArray).data.toList = [61] from rfl, hc] at HC
  rw [hc] at hcs
  have HC' := Lib.hid HC
  have HE := Lib.hid hE
  have HP := Lib.hid hP
  clear HC hE hP hc hT hm
  go_enter Tryd.func51, Tryd.ntmps51
  cases y
  · go_wp2_with (go_at_call 61; refine HC'.out.mono ?_; rintro e w1 ⟨rfl, n, rfl⟩)
    refine (among_any x (catsL ++ loneL) _ (HE.out.drew n) hx (by decide)).mono ?_
    rintro e w2 ⟨rfl, rfl⟩
    go_wp2_with fail
    go_ret
    exact ⟨ret_bool (by rw [HP.out]; rfl), _, rfl⟩
  · go_wp2_with (go_at_call 61; refine HC'.out.mono ?_; rintro e w1 ⟨rfl, n, rfl⟩)
    refine (among_any a gcL _ (HE.out.drew n) (by omega) (by decide)).mono ?_
    rintro e w2 ⟨rfl, rfl⟩
    cases h1 : amongL a gcL
    · rw [h1] at HP
      clear h1
      go_wp2_with fail
      refine (among_any a scL _ (HE.out.drew n) (by omega) (by decide)).mono ?_
      rintro e w2 ⟨rfl, rfl⟩
      cases h2 : amongL a scL
      · rw [h2] at HP
        clear h2
        go_wp2_with fail
        go_ret
        exact ⟨ret_bool (by rw [HP.out]; rfl), _, rfl⟩
      · rw [h2] at HP
        clear h2
        go_wp2_with fail
        refine (among_any b scriptsL _ (HE.out.drew n) (by omega) (by decide)).mono ?_
        rintro e w2 ⟨rfl, rfl⟩
        go_wp2_with fail
        go_ret
        exact ⟨ret_bool (by rw [HP.out]; rfl), _, rfl⟩
    · rw [h1] at HP
      clear h1
      go_wp2_with fail
      refine (among_any b catsL _ (HE.out.drew n) (by omega) (by decide)).mono ?_
      rintro e w2 ⟨rfl, rfl⟩
      go_wp2_with fail
      go_ret
      exact ⟨ret_bool (by rw [HP.out]; rfl), _, rfl⟩
end Go.Proofs.YtnbadnmmolagfaaDoor
