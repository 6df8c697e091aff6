/- Package regex: group, atom, where pattern is walked for shorter rests. -/
import Derived.Test.YtnbadnmmolagfaaDoorRegEsd
import Derived.Test.YtnbadnmmolagfaaDoorRegSum
namespace Go.Proofs.YtnbadnmmolagfaaDoor
open Go.RowKit
set_option maxRecDepth 100000
set_option linter.unusedVariables false
set_option linter.unusedSimpArgs false

/-- pattern is walked where less than k bytes are left. -/
def PatOk (B b M : Nat) (l : Ln) (u : Bool) (k : Nat) : Prop :=
  ∀ (s : St) (vn vd : Value) (es : Array MapEntry) (clock : Nat) (w : World), Rs B b M l u s vn vd es clock w → Env w → B ≤ w.heap.size → s.r.length < k → s.sum ≤ 4096 →
    Calls Tryd.prog 17 #[.pointer (some ⟨b, 0, none⟩)] w (EndS B b M l u w (patF u k s))
theorem Ht.heavy {B b M : Nat} {l : Ln} {u : Bool} {w w1 w2 : World} {vn vd vn' vd' : Value} {es es' : Array MapEntry} {clock clock' : Nat} {s s' : St} (h : Ht B b M l u w vn vd es clock s w1) (h1 : Below B w1 w2) (h2 : Rs B b M l u s' vn' vd' es' clock' w2) : Ht B b M l u w vn' vd' es' clock' s' w2 := ⟨h2, h.be.trans h1, h.sz⟩
theorem Ht.big {B b M : Nat} {l : Ln} {u : Bool} {w w1 : World} {vn vd : Value} {es : Array MapEntry} {clock : Nat} {s : St} (h : Ht B b M l u w vn vd es clock s w1) : B ≤ w1.heap.size := Nat.le_trans h.sz h.be.size

set_option maxHeartbeats 8000000 in
theorem group_any (B b M : Nat) (l : Ln) (u : Bool) (k : Nat) (hP : PatOk B b M l u k) (s : St) (vn vd : Value) (es : Array MapEntry) (clock : Nat) (w : World) (h : Rs B b M l u s vn vd es clock w) (hl : l.length ≤ 4096) (hE : Env w) (hbw : B ≤ w.heap.size) (hk : s.r.length < k) (hs : s.sum ≤ 4096) :
    Calls Tryd.prog 27 #[.pointer (some ⟨b, 0, none⟩)] w (EndS B b M l u w (groupS (patF u k) s)) := by
  have HP := Lib.hid (hP s vn vd es clock w h hE hbw hk hs)
  have H0 := Lib.hid (show Ht B b M l u w vn vd es clock s w from ⟨h, Below.refl _ _, hbw⟩)
  clear h hE hP
  go_enter Tryd.func27, Tryd.ntmps27
  go_wp2_with fail
  rcases hp : patF u k s with f | s1
  · have HRES : Hid (groupS (patF u k) s = .error f) := Lib.hid (by unfold groupS; rw [hp]; rfl)
    rw [hp] at HP
    clear hp
    refine HP.out.mono ?_
    rintro e w1 ⟨hb, rfl⟩
    try simp (config := { zetaDelta := true }) only [Exit.noGoto_ret, Exit.inBlock, Exit.then]
    refine ⟨rfl, ?_⟩
    rw [HRES.out]
    exact ⟨hb, rfl⟩
  · have HPP := Lib.hid hp
    rw [hp] at HP
    clear hp
    refine HP.out.mono ?_
    rintro e w1 ⟨hb, rfl, vn1, vd1, es1, clock1, hr⟩
    have H1 := Lib.hid (H0.out.heavy hb hr)
    clear hb hr
    go_wp2_with fail
    rcases Bool.eq_false_or_eq_true (hasP [41] s1.r) with p | p
    · have HRES : Hid (groupS (patF u k) s = .ok { s1 with r := s1.r.drop 1 }) := Lib.hid (by unfold groupS; rw [HPP.out]; simp only [bind, Except.bind, wantL, p]; rfl)
      refine (want_yes H1.out.rs.rd hl p).mono ?_
      rintro e w2 ⟨rfl, hr, hg⟩
      have H2 := Lib.hid (H1.out.next hr hg)
      clear hr hg p
      go_wp2_with fail
      try simp (config := { zetaDelta := true }) only [Exit.noGoto_ret, Exit.inBlock, Exit.then]
      go_end0
      rw [HRES.out]
      exact H2.out.ends
    · have HRES : Hid (groupS (patF u k) s = .error (form s1.r)) := Lib.hid (by unfold groupS; rw [HPP.out]; simp only [bind, Except.bind, wantL, p]; rfl)
      refine (want_no H1.out.rs.rd hl p).mono ?_
      rintro e w2 ⟨rfl, hg⟩
      try simp (config := { zetaDelta := true }) only [Exit.noGoto_ret, Exit.inBlock, Exit.then]
      refine ⟨rfl, ?_⟩
      rw [HRES.out]
      exact H1.out.bad _ hg

theorem Rs.more {B b M : Nat} {l : Ln} {u : Bool} {s : St} {vn vd : Value} {es : Array MapEntry} {clock : Nat} {w : World} (h : Rs B b M l u s vn vd es clock w) {z : Int} (hz : z = ((s.g + 1 : Nat) : Int)) : Rs B b M l u { s with g := s.g + 1 } vn vd es clock (w.setCell ⟨b, 3, none⟩ (.int .i64 z)) := by
  subst hz
  obtain ⟨n1, n2, n3⟩ := h.ne
  have hg : w.grownBy (w.setCell ⟨b, 3, none⟩ (.int .i64 ((s.g + 1 : Nat) : Int))) (some b) := grown_set (grown_refl _ _) 3 _
  exact ⟨h.rd.xs 0 _, own_grown h.nu hg (fun k hk => by simpa using (n2 k hk).1), own_grown h.nd hg (fun k hk => by simpa using (n3 k hk).1), (hg.block M (Array.getElem?_eq_some_iff.1 h.mp).1 (by simpa using n1.symm)).trans h.mp, h.nm, h.ap, h.hb, h.hM⟩
theorem Ht.more {B b M : Nat} {l : Ln} {u : Bool} {w w1 : World} {vn vd : Value} {es : Array MapEntry} {clock : Nat} {s : St} (h : Ht B b M l u w vn vd es clock s w1) {z : Int} (hz : z = ((s.g + 1 : Nat) : Int)) : Ht B b M l u w vn vd es clock { s with g := s.g + 1 } (w1.setCell ⟨b, 3, none⟩ (.int .i64 z)) :=
  ⟨h.rs.more hz, h.be.setCell (p := ⟨b, 3, none⟩) h.rs.hb _, h.sz⟩
theorem putName_heap (w : World) (M : Nat) (es : Array MapEntry) (clock : Nat) (t : Ln) (n k : Nat) (hk : k ≠ M) : (putName w M es clock t n).heap[k]? = w.heap[k]? := by
  unfold putName
  simp [Array.getElem?_setIfInBounds, Ne.symm hk]
theorem putName_map (w : World) (M : Nat) (es : Array MapEntry) (clock : Nat) (t : Ln) (n : Nat) (hM : M < w.heap.size) : (putName w M es clock t n).heap[M]? = some (.map (es.push { key := .string (strOf t), val := .int .i64 (n : Int), born := clock }) (clock + 1)) := by
  unfold putName
  simp [Array.getElem?_setIfInBounds, hM]
theorem Ht.put {B b M : Nat} {l : Ln} {u : Bool} {w w1 : World} {vn vd : Value} {es : Array MapEntry} {clock : Nat} {s : St} (h : Ht B b M l u w vn vd es clock s w1) (t : Ln) (n : Nat) :
    Ht B b M l u w vn vd (es.push { key := .string (strOf t), val := .int .i64 (n : Int), born := clock }) (clock + 1) { s with nm := s.nm ++ [(t, n)] } (putName w1 M es clock t n) := by
  obtain ⟨n1, n2, n3⟩ := h.rs.ne
  have hM : M < w1.heap.size := (Array.getElem?_eq_some_iff.1 h.rs.mp).1
  have hg : w1.grownBy (putName w1 M es clock t n) (some M) := ⟨rfl, rfl, rfl, by simp [putName], fun k _ hk => putName_heap _ _ _ _ _ _ _ (by simpa using hk)⟩
  obtain ⟨k, a1, a2, a3⟩ := h.rs.rd
  refine ⟨⟨⟨k, a1, a2, a3.grown hg (by simpa using n1)⟩, own_grown h.rs.nu hg (fun k hk => by simpa using (n2 k hk).2), own_grown h.rs.nd hg (fun k hk => by simpa using (n3 k hk).2), putName_map _ _ _ _ _ _ hM, names_push h.rs.nm t n clock, h.rs.ap, h.rs.hb, h.rs.hM⟩, h.be.grown hg h.big (fun k hk => by injection hk with hk; subst hk; exact h.rs.hM), h.sz⟩
end Go.Proofs.YtnbadnmmolagfaaDoor
