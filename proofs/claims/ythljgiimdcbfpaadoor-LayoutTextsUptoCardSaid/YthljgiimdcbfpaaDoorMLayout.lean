/- Package layout: Layout. -/
import Derived.Test.YthljgiimdcbfpaaDoorMDo
import Derived.Test.YthljgiimdcbfpaaDoorMDoc
namespace Go.Proofs.YthljgiimdcbfpaaDoor
open Go.RowKit
set_option maxRecDepth 100000
set_option linter.unusedVariables false
set_option linter.unusedSimpArgs false

theorem stays4 (w : World) (a b c d : Obj) : Below w.heap.size w ((((w.alloc a).alloc b).alloc c).alloc d) :=
  ((((Below.refl _ w).alloc (Nat.le_refl _) a).alloc (by simp) b).alloc (by simp; omega) c).alloc (by simp; omega) d
set_option maxHeartbeats 16000000 in
theorem layout_bad (d : Doc) (kv : Value) (ov : OptV) (w : World) (ho : optOk ov.o = false) :
    Calls Tryd.prog 16 #[docV d kv, .agg ov.cells.toArray] w fun e w' => e = .returned (.tuple #[.string ⟨#[]⟩, .int .i64 1700]) ∧ Below w.heap.size w w' := by
  have hor : ov.o.width < 1 ∨ 1 ≤ ov.o.width ∧ (10000 < ov.o.width ∨ ov.o.width ≤ 10000 ∧ (ov.o.tab < 0 ∨ 0 ≤ ov.o.tab ∧ 16 < ov.o.tab)) := by
    unfold optOk at ho
    simp at ho
    omega
  unfold OptV.cells
  generalize ov.o.width = wi at *
  generalize ov.o.tab = tb at *
  clear ho
  unfold docV
  rcases hor with h1 | ⟨h1, h2 | ⟨h2, h3 | ⟨h3, h4⟩⟩⟩
  all_goals
    go_enter_defers Tryd.func16, Tryd.ntmps16
    go_wp2_with fail
    refine ⟨.tuple #[.string ⟨#[]⟩, .int .i64 1700], by simp [results, Tryd.results16, go_sem], rfl, ?_⟩
    exact stays4 w _ _ _ _

structure LStart (w : World) (d : Doc) (kv : Value) (os : List Value) (W : World) : Prop where
  below : Below w.heap.size w W
  size : W.heap.size = w.heap.size + 4
  doc : Blk W w.heap.size (docCells d kv) 24
  opt : Blk W (w.heap.size + 1) os 26
  p : Blk W (w.heap.size + 1 + 1) [.string ⟨#[]⟩] 9
  q : Blk W (w.heap.size + 1 + 1 + 1) [.int .i64 0] 29
theorem lay_start (w : World) (d : Doc) (kv : Value) (wi tb : Int) (b1 b2 b3 b4 b5 b6 b7 : Bool) (W : World) (hW : W = ((((w.alloc (.cells #[.int .i64 d.kind, .string d.text, kv, .bool d.brk, .int .i64 d.id, .int .i64 d.width] 24)).alloc (.cells #[.int .i64 wi, .int .i64 tb, .bool b1, .bool b2, .bool b3, .bool b4, .bool b5, .bool b6, .bool b7] 26)).alloc (.cells #[.string ⟨#[]⟩] 9)).alloc (.cells #[.int .i64 0] 29))) :
    LStart w d kv [.int .i64 wi, .int .i64 tb, .bool b1, .bool b2, .bool b3, .bool b4, .bool b5, .bool b6, .bool b7] W := by
  subst hW
  exact { below := stays4 w _ _ _ _, size := by simp, doc := (((Blk.new' (W := w) _ _ rfl).alloc _).alloc _).alloc _, opt := ((Blk.new' _ _ (by simp)).alloc _).alloc _, p := (Blk.new' _ _ (by simp)).alloc _, q := Blk.new' _ _ (by simp) }
set_option maxHeartbeats 16000000 in
theorem layout_code (d : Doc) (kv : Value) (ov : OptV) (w : World) (ho : optOk ov.o = true) (hk : KV w 0 w.heap.size d kv) (hb : d.bulk ≤ 4194304) (hT : Tabs w) (hc : d.code ≠ 0) :
    Calls Tryd.prog 16 #[docV d kv, .agg ov.cells.toArray] w fun e w' => e = .returned (.tuple #[.string ⟨#[]⟩, .int .i64 d.code]) ∧ Below w.heap.size w w' := by
  obtain ⟨t1, t2, t3, t4⟩ := tab_bd ho
  have g1 : ¬ ov.o.width < 1 := by omega
  have g2 : ¬ 10000 < ov.o.width := by omega
  have g3 : ¬ ov.o.tab < 0 := by omega
  have g4 : ¬ 16 < ov.o.tab := by omega
  have HCK := Lib.hid (fun (W : World) (hB : Below w.heap.size w W) => check_any d kv W ((hk.below hB (Nat.le_refl _)).wide (Nat.le_refl _) hB.size) hb (hT.below hB))
  have hcn : (d.code == 0) = false := by simpa using hc
  unfold OptV.cells
  generalize ov.o.width = wi at *
  generalize ov.o.tab = tb at *
  clear ho t1 t2 t3 t4 hk hb hT
  unfold docV at HCK ⊢
  generalize d.code = cd at *
  go_enter_defers Tryd.func16, Tryd.ntmps16
  go_wp2_with fail
  obtain ⟨W, hW⟩ : ∃ W, W = ((((w.alloc (.cells #[.int .i64 d.kind, .string d.text, kv, .bool d.brk, .int .i64 d.id, .int .i64 d.width] 24)).alloc (.cells #[.int .i64 wi, .int .i64 tb, .bool ov.o.tabs, .bool ov.semi, .bool ov.single, .bool ov.trailing, .bool ov.spacing, .bool ov.o.crlf, .bool ov.module] 26)).alloc (.cells #[.string ⟨#[]⟩] 9)).alloc (.cells #[.int .i64 0] 29)) := ⟨_, rfl⟩
  rw [← hW]
  have hst := lay_start w d kv wi tb ov.o.tabs ov.semi ov.single ov.trailing ov.spacing ov.o.crlf ov.module W hW
  have HST := Lib.hid hst
  clear hW hst
  refine (HCK.out W HST.out.below).mono ?_
  rintro e w1 ⟨rfl, hb1⟩
  have hp1 := (HST.out.p).below hb1
  have hq1 := (HST.out.q).below hb1
  have d0 := hp1.cell 0
  have d1 := hq1.cell 0
  have f0 := hp1.frozen 0
  have f1 := hq1.frozen 0
  have HB1 := Lib.hid (HST.out.below.trans (hb1.mono HST.out.below.size))
  have HPQ := Lib.hid (And.intro hp1 hq1)
  clear hb1 hp1 hq1
  go_wp2_with fail
  have x0 := ((HPQ.out.1.set 0 (.string ⟨#[]⟩)).set_other (a := ⟨w.heap.size + 1 + 1 + 1, 0, none⟩) (by simp) (.int .i64 cd)).cell 0
  have x1 := ((HPQ.out.2.set_other (a := ⟨w.heap.size + 1 + 1, 0, none⟩) (by simp) (.string ⟨#[]⟩)).set 0 (.int .i64 cd)).cell 0
  refine ⟨.tuple #[.string ⟨#[]⟩, .int .i64 cd], by simp [results, Tryd.results16, go_sem, x0, x1], rfl, ?_⟩
  exact (HB1.out.setCell (p := ⟨w.heap.size + 1 + 1, 0, none⟩) (by simp; omega) _).setCell (p := ⟨w.heap.size + 1 + 1 + 1, 0, none⟩) (by simp; omega) _
/-- The machine that begins, nothing pushed. -/
def lay0 : MS := ⟨[], 0, [], [], fun _ => false, .slice none 0 0, .slice none 0 0, .slice none 0 0, #[], 0⟩
theorem lay_mat (ov : OptV) {wi tb : Int} {cr : Bool} {nl : ByteArray} {B0 b mb : Nat} {W : World} (h1 : ov.o.width = wi) (h2 : ov.o.tab = tb) (h3 : ov.o.crlf = cr) (h4 : strOf ov.o.nl = nl) (ho : optOk ov.o = true)
    (hk : Blk W b [.int .i64 wi, .int .i64 tb, .bool ov.o.tabs, .bool ov.semi, .bool ov.single, .bool ov.trailing, .bool ov.spacing, .bool cr, .bool ov.module, .slice none 0 0, .int .i64 0, .slice none 0 0, .slice none 0 0, .map (some mb), .string nl] 64) (hm : W.heap[mb]? = some (.map #[] 0)) (hb : B0 ≤ b) (hmb : B0 ≤ mb) (hl : B0 ≤ W.heap.size) :
    MAt B0 b mb ov lay0 W := by
  subst h1 h2 h3 h4
  exact { blk := hk, out := World.ownsRow_nil _ _ _ _, stk := World.ownsRow_nil _ _ _ _, put := World.ownsRow_nil _ _ _ _, map := hm, brk := ⟨[], rfl, fun _ => rfl⟩, apart := fun k h => (by cases h), lowb := hb, lowm := hmb, low := hl, good := fun c hc => (by cases hc), weight := by decide, len := by decide, col0 := by decide, col1 := by decide, opt := ho }
theorem lay_doc {w : World} {B0 b mb g : Nat} {d : Doc} {kv : Value} (h : Blk w g (docCells d kv) 24) (hk : KV w 0 B0 d kv) (hg : g < b ∧ g < mb) : DocAt w B0 (lay0.F b mb w) d ⟨g, 0, none⟩ := by
  refine ⟨g, 0, kv, rfl, ⟨h.lt, fun hx => ?_⟩, ⟨h.cell 0, h.cell 1, h.cell 2, h.cell 3, h.cell 4, h.cell 5⟩, hk⟩
  rcases hx with hx | hx | hx | hx | hx
  · omega
  · omega
  · cases hx
  · cases hx
  · cases hx
theorem code_ok {d : Doc} (hc : d.code = 0) : d.depth ≤ 64000 ∧ d.shape = true := by
  unfold Doc.code at hc
  split at hc
  · cases hc
  · split at hc
    · rename_i h1 h2
      exact ⟨by omega, h2⟩
    · cases hc
theorem start_ok {d : Doc} (hc : d.code = 0) (hb : d.bulk ≤ 4194304) : CmOk [] d := by
  obtain ⟨h1, h2⟩ := code_ok hc
  exact { shape := h2, bulk := hb, ind := fun x hx => (by cases hx), wide := by simp only [Ind.wide]; omega }
theorem start_wt {d : Doc} (hb : d.bulk ≤ 4194304) : lay0.weight + wtL [d] ≤ 16777216 := by
  have h1 := d.nodes_bulk
  have h2 : lay0.weight = 0 := rfl
  have h3 : wtL [d] = d.wt := by simp [wtL]
  unfold Doc.wt at h3
  omega
/-- What holds of the machine between two steps. -/
structure LInv (o : Opt) (R : Option Ln) (m : Mach) : Prop where
  runs : Runs o R m
  col : ColOk m
  meas : m.meas ≤ 8388607
theorem linv_start {o : Opt} {d : Doc} (hb : d.bulk ≤ 4194304) : LInv o (runM o (2 * d.nodes) (startM d)) (startM d) := by
  refine ⟨Runs.start o d, by unfold ColOk startM; simp, ?_⟩
  rw [start_meas]
  have h1 := d.nodes_bulk
  unfold Doc.wt
  omega
set_option maxHeartbeats 16000000 in
theorem layout_main (d : Doc) (kv : Value) (ov : OptV) (w : World) (ho : optOk ov.o = true) (hk : KV w 0 w.heap.size d kv) (hb : d.bulk ≤ 4194304) (hT : Tabs w) (hc : d.code = 0) :
    Calls Tryd.prog 16 #[docV d kv, .agg ov.cells.toArray] w fun e w' => e = .returned (.tuple #[.string (strOf ((runM ov.o (2 * d.nodes) (startM d)).getD [])), .int .i64 (if (runM ov.o (2 * d.nodes) (startM d)).isSome then 0 else 1502)]) ∧ Below w.heap.size w w' := by
  obtain ⟨R, hR⟩ : ∃ R, R = runM ov.o (2 * d.nodes) (startM d) := ⟨_, rfl⟩
  rw [← hR]
  have HRR := Lib.hid hR
  clear hR
  obtain ⟨S, hS⟩ : ∃ S, S = strOf (R.getD []) := ⟨_, rfl⟩
  obtain ⟨E, hE⟩ : ∃ E : Int, E = if R.isSome then 0 else 1502 := ⟨_, rfl⟩
  rw [← hS, ← hE]
  have HS := Lib.hid hS
  have HE := Lib.hid hE
  clear hS hE
  obtain ⟨t1, t2, t3, t4⟩ := tab_bd ho
  have g1 : ¬ ov.o.width < 1 := by omega
  have g2 : ¬ 10000 < ov.o.width := by omega
  have g3 : ¬ ov.o.tab < 0 := by omega
  have g4 : ¬ 16 < ov.o.tab := by omega
  have hmf : ∀ (fn : Fn) (first cap : Array Value) (w : World), (Instr.makeFunc fn first cap).run Tryd.prog w = .ok (.func fn first cap) w := fun _ _ _ _ => rfl
  have hmm := @run_makeMap Tryd.prog
  have HCK := Lib.hid (fun (W : World) (hB : Below w.heap.size w W) => check_any d kv W ((hk.below hB (Nat.le_refl _)).wide (Nat.le_refl _) hB.size) hb (hT.below hB))
  rw [hc] at HCK
  have HOV := Lib.hid ho
  have HKV := Lib.hid hk
  have HBK := Lib.hid hb
  have HCD := Lib.hid hc
  obtain ⟨ops, hops⟩ : ∃ ops, ops = ov.cells := ⟨_, rfl⟩
  have HOPS := Lib.hid hops
  unfold OptV.cells at hops ⊢
  generalize hwi : ov.o.width = wi at *
  generalize htb : ov.o.tab = tb at *
  have HWI := Lib.hid hwi
  have HTB := Lib.hid htb
  clear ho t1 t2 t3 t4 hk hb hT hc hwi htb
  unfold docV at HCK ⊢
  go_enter_defers Tryd.func16, Tryd.ntmps16
  go_wp2_with fail
  obtain ⟨W, hW⟩ : ∃ W, W = ((((w.alloc (.cells #[.int .i64 d.kind, .string d.text, kv, .bool d.brk, .int .i64 d.id, .int .i64 d.width] 24)).alloc (.cells #[.int .i64 wi, .int .i64 tb, .bool ov.o.tabs, .bool ov.semi, .bool ov.single, .bool ov.trailing, .bool ov.spacing, .bool ov.o.crlf, .bool ov.module] 26)).alloc (.cells #[.string ⟨#[]⟩] 9)).alloc (.cells #[.int .i64 0] 29)) := ⟨_, rfl⟩
  rw [← hW]
  have hst := lay_start w d kv wi tb ov.o.tabs ov.semi ov.single ov.trailing ov.spacing ov.o.crlf ov.module W hW
  have HST := Lib.hid hst
  clear hW hst
  refine (HCK.out W HST.out.below).mono ?_
  rintro e w1 ⟨rfl, hb1⟩
  have hdoc1 := (HST.out.doc).below hb1
  have hopt1 := (HST.out.opt).below hb1
  have hp1 := (HST.out.p).below hb1
  have hq1 := (HST.out.q).below hb1
  have o0 := hopt1.cell 0
  have o1 := hopt1.cell 1
  have o2 := hopt1.cell 2
  have o3 := hopt1.cell 3
  have o4 := hopt1.cell 4
  have o5 := hopt1.cell 5
  have o6 := hopt1.cell 6
  have o7 := hopt1.cell 7
  have o8 := hopt1.cell 8
  simp only [List.getElem?_cons_zero, List.getElem?_cons_succ] at o0 o1 o2 o3 o4 o5 o6 o7 o8
  have HB1 := Lib.hid (HST.out.below.trans (hb1.mono HST.out.below.size))
  have HPQ := Lib.hid (And.intro hdoc1 (And.intro hp1 hq1))
  have hsz1 : w.heap.size + 4 ≤ w1.heap.size := by have := hb1.size; have := HST.out.size; omega
  have HO7 := Lib.hid hopt1
  clear hb1 hdoc1 hopt1 hp1 hq1
  go_upto_region 8 with fail
  obtain ⟨W2, hW2⟩ : ∃ W2, W2 = ((w1.alloc (.map #[] 0)).alloc (.cells #[.int .i64 wi, .int .i64 tb, .bool ov.o.tabs, .bool ov.semi, .bool ov.single, .bool ov.trailing, .bool ov.spacing, .bool ov.o.crlf, .bool ov.module, .slice none 0 0, .int .i64 0, .slice none 0 0, .slice none 0 0, .map (some w1.heap.size), .string ⟨#[10]⟩] 64)) := ⟨_, rfl⟩
  rw [← hW2]
  have hb2 : Below w1.heap.size w1 W2 := by rw [hW2]; exact ((Below.refl _ w1).alloc (Nat.le_refl _) _).alloc (by simp) _
  have hk2 : Blk W2 (w1.heap.size + 1) [.int .i64 wi, .int .i64 tb, .bool ov.o.tabs, .bool ov.semi, .bool ov.single, .bool ov.trailing, .bool ov.spacing, .bool ov.o.crlf, .bool ov.module, .slice none 0 0, .int .i64 0, .slice none 0 0, .slice none 0 0, .map (some w1.heap.size), .string ⟨#[10]⟩] 64 := by rw [hW2]; exact Blk.new' (W := w1.alloc (.map #[] 0)) _ _ (by simp)
  have hm2 : W2.heap[w1.heap.size]? = some (.map #[] 0) := by
    rw [hW2, Below.heap_alloc _ _ _ (by simp)]
    exact heap_alloc_new w1 _
  have hz2 : W2.heap.size = w1.heap.size + 2 := by rw [hW2]; simp
  have o7' := (HO7.out.below hb2).cell 7
  simp only [List.getElem?_cons_zero, List.getElem?_cons_succ] at o7'
  have n6 := hk2.cell 14
  have f6 := hk2.frozen 14
  clear hW2 o0 o1 o2 o3 o4 o5 o6 o7 o8
  have HB2 := Lib.hid hb2
  have HK2 := Lib.hid hk2
  have HM2 := Lib.hid hm2
  have HZ2 := Lib.hid hz2
  clear hb2 hk2 hm2 hz2
  have HNL : Hid (ov.o.nl = if ov.o.crlf then [13, 10] else [10]) := Lib.hid rfl
  cases hcr : ov.o.crlf
  all_goals
    rw [hcr] at o7' HNL
    go_upto_region 10 with fail
  · have h3 : Below w1.heap.size w1 W2 := HB2.out
    have k3 := lay_mat ov HWI.out HTB.out rfl (nl := ⟨#[10]⟩) (by rw [HNL.out]; first | done | rfl) HOV.out (B0 := w.heap.size) (mb := w1.heap.size) (b := w1.heap.size + 1) HK2.out HM2.out (by omega) (by omega) (by have := HZ2.out; omega)
    have HW3 := Lib.hid h3
    have HK3 := Lib.hid k3
    clear h3 k3 n6 f6 o7'
    obtain ⟨W3, hW3⟩ : ∃ W3, W3 = W2 := ⟨_, rfl⟩
    rw [← hW3] at HW3 HK3 ⊢
    clear hW3
    have HB3 : Hid (Below w.heap.size w W3) := Lib.hid (HB1.out.trans (HW3.out.mono HB1.out.size))
    have hdat : DocAt W3 w.heap.size (lay0.F (w1.heap.size + 1) w1.heap.size W3) d ⟨w.heap.size, 0, none⟩ := lay_doc (HPQ.out.1.below HW3.out) (HKV.out.below HB3.out (Nat.le_refl _)) (by omega)
    have HP3 := Lib.hid (HPQ.out.2.1.below HW3.out)
    have HQ3 := Lib.hid (HPQ.out.2.2.below HW3.out)
    have HPU := Lib.hid (push_some (ind := []) (p := none) (ds := [d]) (la := [⟨w.heap.size, 0, none⟩]) (n := 1) (c := 1) HK3.out ((Below.refl W3.heap.size W3).alloc (Nat.le_refl _) (.cells #[.pointer (some ⟨w.heap.size, 0, none⟩)] 66)) rfl false (docs_single hdat) (fun x hx => by rw [List.mem_singleton] at hx; rw [hx]; exact start_ok HCD.out HBK.out) (by exact Blk.new' (W := W3) (g := W3.heap.size) [.pointer (some ⟨w.heap.size, 0, none⟩)] 66 rfl) (Nat.le_refl _) rfl (start_wt HBK.out))
    clear hdat
    go_wp2_with fail
    refine HPU.out.mono ?_
    intro e w5 he
    obtain ⟨rfl, t1, m1, a1, g1⟩ := he
    have HA1 := Lib.hid a1
    have HG1 := Lib.hid ((Goes.of_below (b := w1.heap.size + 1) (mb := w1.heap.size) (s := lay0) ((Below.refl W3.heap.size W3).alloc (Nat.le_refl _) (.cells #[.pointer (some ⟨w.heap.size, 0, none⟩)] 66))).trans g1)
    have HI1 : Hid (LInv ov.o R t1.mach) := Lib.hid (by rw [HRR.out, m1]; exact linv_start HBK.out)
    clear a1 g1 m1
    obtain ⟨b, hb⟩ : ∃ b, b = w1.heap.size + 1 := ⟨_, rfl⟩
    obtain ⟨mb, hmb⟩ : ∃ mb, mb = w1.heap.size := ⟨_, rfl⟩
    rw [← hb, ← hmb] at HA1 HG1 HK3
    rw [← hb]
    have HBE := Lib.hid hb
    have HME := Lib.hid hmb
    have HPX : Hid (∀ k, k = w.heap.size + 1 + 1 ∨ k = w.heap.size + 1 + 1 + 1 → k < W3.heap.size ∧ ¬ lay0.X b mb k) := Lib.hid (by
      intro k hk
      have h1 := HQ3.out.lt
      refine ⟨by omega, fun hx => ?_⟩
      rcases hx with hx | hx | hx | hx | hx
      · omega
      · omega
      · cases hx
      · cases hx
      · cases hx)
    clear hb hmb
    go_wp2_with fail
    go_loopg [] t1.mach.meas (fun k wr => ∃ t : MS, MAt w.heap.size b mb ov t wr ∧ Goes b mb lay0 t W3 wr ∧ LInv ov.o R t.mach ∧ t.mach.meas = k)
    case atStart => exact ⟨t1, HA1.out, HG1.out, HI1.out, rfl⟩
    case round =>
      obtain ⟨t0, hat0, hgo0, hin0, hme0⟩ := hrel
      have HAT0 := Lib.hid hat0
      have HGO0 := Lib.hid hgo0
      have HIN0 := Lib.hid hin0
      have HME0 := Lib.hid hme0
      clear hat0 hgo0 hin0 hme0
      go_wp2_with fail
      go_loopg [] t0.mach.meas (fun k wr => ∃ t : MS, MAt w.heap.size b mb ov t wr ∧ Goes b mb lay0 t W3 wr ∧ LInv ov.o R t.mach ∧ t.mach.meas = k ∧ t.mach.meas ≤ t0.mach.meas)
      case atStart => exact ⟨t0, HAT0.out, HGO0.out, HIN0.out, rfl, Nat.le_refl _⟩
      case round =>
        obtain ⟨t, hat, hgo, hin, hme, hmt⟩ := hrel
        have HAT := Lib.hid hat
        have HGO := Lib.hid hgo
        have HIN := Lib.hid hin
        have HME := Lib.hid hme
        have HMT := Lib.hid hmt
        have hsl := stk_len hat
        have hbl := hat.blk.lt
        have c11 := hat.cells.2.2.2.2.2.1
        have c12 := hat.cells.2.2.2.2.2.2.1
        obtain ⟨A2, n2, hvs⟩ := own_slice hat.stk
        obtain ⟨A3, n3, hvp⟩ := own_slice hat.put
        rw [hvs] at c11
        rw [hvp] at c12
        clear hat hgo hin hme hmt HAT0 HGO0 HIN0
        rcases List.eq_nil_or_concat t.stk with hst | ⟨l, cm, hst⟩
        · have HST := Lib.hid hst
          rw [hst] at c11
          simp only [List.length_nil] at c11
          clear hst hvs hvp
          by_cases hp : t.put = []
          · have HPN := Lib.hid hp
            rw [hp] at c12
            simp only [List.length_nil] at c12
            clear hp
            have c9 := HAT.out.cells.2.2.2.1
            have hcv := own_string HAT.out.out
            obtain ⟨A9, n9, hvo⟩ := own_slice HAT.out.out
            rw [hvo] at c9 hcv
            clear hvo
            have HRO : Hid (R = some t.out) := Lib.hid (HIN.out.runs.done (by unfold MS.mach; rw [HST.out]; rfl) (by unfold MS.mach; rw [HPN.out]; rfl))
            have hbp : Blk wr (w.heap.size + 1 + 1) [.string ⟨#[]⟩] 9 := (HGO.out.1.block _ (HPX.out _ (.inl rfl)).1 (HPX.out _ (.inl rfl)).2).trans HP3.out
            have hbq : Blk wr (w.heap.size + 1 + 1 + 1) [.int .i64 0] 29 := (HGO.out.1.block _ (HPX.out _ (.inr rfl)).1 (HPX.out _ (.inr rfl)).2).trans HQ3.out
            have d0 := hbp.cell 0
            have d1 := hbq.cell 0
            have f0 := hbp.frozen 0
            have f1 := hbq.frozen 0
            have HBQ := Lib.hid (And.intro hbp hbq)
            have HBW : Hid (Below w.heap.size w wr) := Lib.hid (HB3.out.trans (HK3.out.below_of HGO.out.1))
            clear hbp hbq
            go_wp2_with fail
            refine leaves_cons (f := 35) (args := #[.pointer (some ⟨w.heap.size + 1 + 1, 0, none⟩), .pointer (some ⟨w.heap.size + 1 + 1 + 1, 0, none⟩)]) (by simp) (by simp [go_sem]) ?_
            refine (lcatch_idle ⟨w.heap.size + 1 + 1, 0, none⟩ ⟨w.heap.size + 1 + 1 + 1, 0, none⟩ _).mono ?_
            rintro e u' w9 ⟨rfl, rfl, rfl⟩
            have x0 := ((HBQ.out.1.set 0 (.string (strOf t.out))).set_other (a := ⟨w.heap.size + 1 + 1 + 1, 0, none⟩) (by simp) (.int .i64 0)).cell 0
            have x1 := ((HBQ.out.2.set_other (a := ⟨w.heap.size + 1 + 1, 0, none⟩) (by simp) (.string (strOf t.out))).set 0 (.int .i64 0)).cell 0
            unfold strOf at x0 x1
            refine ⟨.tuple #[.string (strOf t.out), .int .i64 0], by unfold strOf; simp [results, Tryd.results16, go_sem, x0, x1], ?_, (HBW.out.setCell (p := ⟨w.heap.size + 1 + 1, 0, none⟩) (by simp; omega) _).setCell (p := ⟨w.heap.size + 1 + 1 + 1, 0, none⟩) (by simp; omega) _⟩
            rw [HS.out, HE.out, HRO.out]
            rfl
          · have HPN := Lib.hid hp
            obtain ⟨pm, hpm⟩ : ∃ pm, t.put.length = pm + 1 := ⟨t.put.length - 1, by have : t.put.length ≠ 0 := fun e => hp (List.length_eq_zero_iff.1 e); omega⟩
            rw [hpm] at c12
            have hpe : (((pm + 1 : Nat) : Int) == 0) = false := by simp; omega
            have hpe2 : ¬ (((pm + 1 : Nat) : Int) = 0) := by omega
            have hpe3 : decide (((pm + 1 : Nat) : Int) = 0) = false := by simp; omega
            clear hp
            have HFL := Lib.hid (flush_is HAT.out (by have h1 := HIN.out.meas; have h2 := weight_mach t; unfold Mach.meas at h1; unfold Mach.weight at h2; omega))
            have HFR := Lib.hid (HIN.out.runs.flush (by unfold MS.mach; rw [HST.out]; rfl) (by unfold MS.mach; simpa using HPN.out))
            have HCO := Lib.hid HIN.out.col
            go_wp2_with fail
            refine HFL.out.mono ?_
            intro e w6 he
            obtain ⟨rfl, t6, m6, a6, g6⟩ := he
            have HA6 := Lib.hid a6
            have HM6 := Lib.hid m6
            have HG6 := Lib.hid (HGO.out.trans g6)
            clear a6 m6 g6
            go_wp2_with fail
            go_roundg t6.mach.meas
            case measure => rw [HM6.out]; have := HFR.out.2; have := HMT.out; have := HME0.out; omega
            case rel => exact ⟨t6, HA6.out, HG6.out, ⟨by rw [HM6.out]; exact HFR.out.1, by rw [HM6.out]; exact HCO.out, by rw [HM6.out]; have := HFR.out.2; have := HIN.out.meas; omega⟩, rfl⟩
        · simp only [List.concat_eq_append] at hst
          have HST := Lib.hid hst
          have hln : t.stk.length = l.length + 1 := by rw [hst]; simp
          obtain ⟨g3, cap3, hv3, p0, p1, p2⟩ := row_cm HAT.out.stk (j := l.length) (by omega)
          have e3 := hvs.symm.trans hv3
          injection e3 with e31 e32 e33
          rw [e31, hln] at c11
          rw [e31, hln] at hvs
          have HVS := Lib.hid hvs
          have hcg : t.stk[l.length]'(by omega) = cm := by simp [hst]
          rw [hcg] at p0 p1 p2
          have hg3 := World.block_lt_of_cell? _ _ p0
          have hgb : g3 ≠ b := by
            have := HAT.out.ne.2.2.1 g3 (by rw [hv3]; rfl)
            exact this.1
          have hGOOD := HAT.out.good cm (List.mem_append_left _ (by rw [hst]; simp))
          have HGD := Lib.hid hGOOD
          have hcap1 : l.length + 1 ≤ n2 := by
            have h1 := HAT.out.stk
            rw [hvs, hln] at h1
            rcases h1.2 with ⟨h, _⟩ | ⟨g', cap', cur, h1, _, _, h4, _⟩
            · injection h with a1 a2 a3
              cases a1
            · injection h1 with a1 a2 a3
              omega
          obtain ⟨m, hm⟩ : ∃ m, m = l.length := ⟨_, rfl⟩
          rw [← hm] at c11 p0 p1 p2 hcap1
          have HMM := Lib.hid hm
          have hml : m ≤ 16777216 := by omega
          have hm0 : (0 : Int) < ((m + 1 : Nat) : Int) := by omega
          have hm1 : ((m + 1 : Nat) : Int) - 1 = (m : Int) := by omega
          have hwm : IntKind.i64.wrap (m : Int) = (m : Int) := by rw [IntKind.wrap_i64]; omega
          have hlt1 : (m : Int) < (m : Int) + 1 := by omega
          have hlt2 : (m : Int) ≤ (m : Int) + 1 := by omega
          have hlt3 : (m : Int) ≤ (n2 : Int) := by omega
          clear hst hv3 e31 e32 e33 hcg hm hGOOD hvs hln hvp c12
          go_upto_region 12 with fail
          refine Code.wp_mono noPanic_to ?_
          refine wp_region_seq (fun w' => w'.cell? ⟨b, 11, none⟩ = some (.slice (some ⟨g3, 0, none⟩) (m + 1) n2) ∧ w'.cell? ⟨g3, m * 3, none⟩ = some (.pointer cm.p) ∧ w'.cell? ⟨g3, m * 3 + 1, none⟩ = some (.bool cm.flat) ∧ w'.cell? ⟨g3, m * 3 + 2, none⟩ = some (.pointer (some cm.a))) 12 2 (by kernel_rfl) rfl (by kernel_rfl) (by intro _ _ _ _ _ h; exact h.elim) ⟨c11, p0, p1, p2⟩ ?_
          simp only [List.take_succ_cons, List.take_zero, List.drop_succ_cons, List.drop_zero, List.cons_append, List.nil_append]
          repeat (refine wpHeld_step rfl ?_; apply Exists.intro; refine ⟨fun wq hq => ?_, ?_⟩; (obtain ⟨q1, q2, q3, q4⟩ := hq; go_simp; first | done | rfl); simp only [Act.put, List.setIfInBounds_toArray, List.set_cons_zero, List.set_cons_succ])
          change wpSeq _ _ _ _ _ _ _
          refine wpSeq_step rfl (fun K hK => ?_)
          go_simp
          have hbV : Below wr.heap.size wr (wr.alloc (.cells #[.pointer none, .bool false, .pointer none] 69)).drew := ((Below.refl _ wr).alloc (Nat.le_refl _) _).drew
          have hkV : Blk (wr.alloc (.cells #[.pointer none, .bool false, .pointer none] 69)).drew wr.heap.size [.pointer none, .bool false, .pointer none] 69 := Blk.new' (W := wr) _ _ rfl
          obtain ⟨V, hV⟩ : ∃ V, V = (wr.alloc (.cells #[.pointer none, .bool false, .pointer none] 69)).drew := ⟨_, rfl⟩
          rw [← hV] at hbV hkV ⊢
          clear hV
          refine hK _ _ ⟨(hbV.cell (p := ⟨b, 11, none⟩) hbl).trans c11, (hbV.cell (p := ⟨g3, m * 3, none⟩) hg3).trans p0, (hbV.cell (p := ⟨g3, m * 3 + 1, none⟩) hg3).trans p1, (hbV.cell (p := ⟨g3, m * 3 + 2, none⟩) hg3).trans p2⟩ ?_
          clear hK K
          try simp only [Act.put, List.setIfInBounds_toArray, List.set_cons_zero, List.set_cons_succ]
          have hk1 := hkV.set 0 (.pointer cm.p)
          have hk2 := hk1.set 1 (.bool cm.flat)
          have hk3 := hk2.set 2 (.pointer (some cm.a))
          simp only [List.set_cons_zero, List.set_cons_succ] at hk1 hk2 hk3
          have hb3 : Below wr.heap.size wr (((V.setCell ⟨wr.heap.size, 0, none⟩ (.pointer cm.p)).setCell ⟨wr.heap.size, 1, none⟩ (.bool cm.flat)).setCell ⟨wr.heap.size, 2, none⟩ (.pointer (some cm.a))) := ((hbV.setCell (p := ⟨wr.heap.size, 0, none⟩) (Nat.le_refl _) _).setCell (p := ⟨wr.heap.size, 1, none⟩) (Nat.le_refl _) _).setCell (p := ⟨wr.heap.size, 2, none⟩) (Nat.le_refl _) _
          have z0 := hkV.cell 0
          have z1 := hk1.cell 1
          have z2 := hk2.cell 2
          have f0 := hkV.frozen 0
          have f1 := hk1.frozen 1
          have f2 := hk2.frozen 2
          simp only [List.getElem?_cons_zero, List.getElem?_cons_succ] at z0 z1 z2
          have HB3' := Lib.hid hb3
          have HK3' := Lib.hid hk3
          clear hkV hk1 hk2 hk3 hb3 hbV
          refine wpSeq_step rfl (fun K hK => ?_)
          go_simp
          obtain ⟨V3, hV3⟩ : ∃ V3, V3 = (((V.setCell ⟨wr.heap.size, 0, none⟩ (.pointer cm.p)).setCell ⟨wr.heap.size, 1, none⟩ (.bool cm.flat)).setCell ⟨wr.heap.size, 2, none⟩ (.pointer (some cm.a))) := ⟨_, rfl⟩
          rw [← hV3] at HB3' HK3' ⊢
          clear hV3 z0 z1 z2 f0 f1 f2
          have d11 := (HB3'.out.cell (p := ⟨b, 11, none⟩) hbl).trans c11
          refine hK _ _ ⟨d11, (HB3'.out.cell (p := ⟨g3, m * 3, none⟩) hg3).trans p0, (HB3'.out.cell (p := ⟨g3, m * 3 + 1, none⟩) hg3).trans p1, (HB3'.out.cell (p := ⟨g3, m * 3 + 2, none⟩) hg3).trans p2⟩ ?_
          clear hK K
          try simp only [Act.put, List.setIfInBounds_toArray, List.set_cons_zero, List.set_cons_succ]
          refine seq_end_np ?_
          have HAT3 := Lib.hid (HAT.out.below HB3'.out)
          have HPOP := Lib.hid (fun (VV : World) (hb : Below V3.heap.size V3 VV) => (HAT3.out.below hb).popStk HST.out (by rw [HVS.out]) _ rfl)
          have g11 := HAT3.out.blk.frozen 11
          have hbw : b < V3.heap.size := HAT3.out.blk.lt
          clear c11 p0 p1 p2
          go_upto_region 13 with fail
          refine Code.wp_mono noPanic_to ?_
          refine wp_region_chain2 (fun w' => w'.cell? ⟨b, 11, none⟩ = some (.slice (some ⟨g3, 0, none⟩) (m + 1) n2)) 12 2 _ (by kernel_rfl) rfl (by kernel_rfl) (by kernel_rfl) (by intro _ _ _ _ _ h; exact h.elim) d11 ?_
          simp only [List.take_succ_cons, List.take_zero, List.drop_succ_cons, List.drop_zero, List.cons_append, List.nil_append]
          repeat (refine wpHeld_step rfl ?_; apply Exists.intro; refine ⟨fun wq hq => ?_, ?_⟩; (have q1 := hq; go_simp; first | done | rfl); simp only [Act.put, List.setIfInBounds_toArray, List.set_cons_zero, List.set_cons_succ])
          change wpSeq _ _ _ _ _ _ _
          refine wpSeq_step rfl (fun K hK => ?_)
          go_simp
          refine hK _ _ d11 ?_
          clear hK K
          try simp only [Act.put, List.setIfInBounds_toArray, List.set_cons_zero, List.set_cons_succ]
          refine wpSeq_step rfl (fun K hK => ?_)
          go_simp
          refine hK _ _ d11 ?_
          clear hK K
          try simp only [Act.put, List.setIfInBounds_toArray, List.set_cons_zero, List.set_cons_succ]
          change Oper.wp _ _ _ _ _ _
          go_simp
          refine np_end ?_
          obtain ⟨V4, hV4⟩ : ∃ V4, V4 = (V3.setCell ⟨b, 11, none⟩ (.slice (some ⟨g3, 0, none⟩) m n2)).drew := ⟨_, rfl⟩
          have hpop := HPOP.out V3.drew (Below.refl V3.heap.size V3).drew
          rw [← HMM.out] at hpop
          have hw4 : V3.drew.setCell ⟨b, 11, none⟩ (.slice (some ⟨g3, 0, none⟩) m n2) = V4 := by rw [hV4]; rfl
          rw [hw4] at hpop
          rw [← hV4]
          have hbr : b ≠ wr.heap.size := by omega
          have hkb : V4.heap[wr.heap.size]? = V3.heap[wr.heap.size]? := by rw [hV4]; exact Below.heap_setCell V3 ⟨b, 11, none⟩ _ wr.heap.size (Ne.symm hbr)
          have hk4 : Blk V4 wr.heap.size [.pointer cm.p, .bool cm.flat, .pointer (some cm.a)] 69 := hkb.trans HK3'.out
          have b0 := hk4.cell 0
          have b1 := hk4.cell 1
          have b2 := hk4.cell 2
          simp only [List.getElem?_cons_zero, List.getElem?_cons_succ] at b0 b1 b2
          have HP4 := Lib.hid hpop
          have HG4 := Lib.hid (((Goes.of_below (b := b) (mb := mb) (s := t) HB3'.out).trans (Goes.of_below (Below.refl V3.heap.size V3).drew)).trans hpop.2)
          obtain ⟨t4, ht4⟩ : ∃ t4, t4 = ({ t with stk := l, vs := .slice (some ⟨g3, 0, none⟩) m n2 } : MS) := ⟨_, rfl⟩
          rw [← ht4] at HP4 HG4
          have HM4 : Hid (t4.mach = { t.mach with stk := (l.map Cm.cmd).reverse }) := Lib.hid (by rw [ht4]; rfl)
          have HTS : Hid (t.mach.stk = cm.cmd :: (l.map Cm.cmd).reverse) := Lib.hid (by unfold MS.mach; rw [HST.out]; simp)
          have HWT : Hid (t4.weight + cm.d.wt ≤ 8388608) := Lib.hid (by
            have h1 := HIN.out.meas
            have h2 := weight_mach t4
            unfold Mach.meas at h1
            rw [HTS.out, wtC_cons] at h1
            rw [HM4.out] at h2
            unfold Mach.weight at h2
            have h3 : cm.cmd.d.wt = cm.d.wt := rfl
            have h4 : ({ t.mach with stk := (l.map Cm.cmd).reverse } : Mach).put = t.mach.put := rfl
            have h5 : ({ t.mach with stk := (l.map Cm.cmd).reverse } : Mach).stk = (l.map Cm.cmd).reverse := rfl
            rw [h4, h5] at h2
            omega)
          have HGD4 := Lib.hid (HAT.out.good_goes HG4.out HGD.out)
          have HCO4 : Hid (t4.col ≤ 1000000000000 + (t4.out.length : Int)) := Lib.hid (by rw [ht4]; exact HIN.out.col)
          clear hV4 hpop hw4 hkb hk4 ht4 d11 g11 HPOP
          have HDO := Lib.hid (do_is HP4.out.1 HGD4.out.ind cm.flat HGD4.out.doc HGD4.out.ok HWT.out HCO4.out)
          have HSTP := Lib.hid (HIN.out.runs.step HTS.out)
          go_wp2_with fail
          refine HDO.out.mono ?_
          intro e w6 he
          have HEE := Lib.hid he
          clear he
          cases hdm : doM ov.o t4.mach ⟨cm.ind, cm.flat, cm.d⟩ with
          | none =>
            obtain ⟨rfl, hfr⟩ := ends_none HEE.out hdm
            have HRN : Hid (R = none) := Lib.hid (by
              have h1 := HSTP.out
              rw [← HM4.out] at h1
              have h2 : doM ov.o t4.mach cm.cmd = none := hdm
              rw [h2] at h1
              exact h1)
            have hfr2 := ends_long (HGO.out.trans HG4.out) hfr
            have hbp : Blk w6 (w.heap.size + 1 + 1) [.string ⟨#[]⟩] 9 := (hfr2.block _ (HPX.out _ (.inl rfl)).1 (HPX.out _ (.inl rfl)).2).trans HP3.out
            have hbq : Blk w6 (w.heap.size + 1 + 1 + 1) [.int .i64 0] 29 := (hfr2.block _ (HPX.out _ (.inr rfl)).1 (HPX.out _ (.inr rfl)).2).trans HQ3.out
            have HBW : Hid (Below w.heap.size w w6) := Lib.hid (HB3.out.trans (HK3.out.below_of hfr2))
            clear hdm hfr hfr2
            refine leaves_cons (f := 35) (args := #[.pointer (some ⟨w.heap.size + 1 + 1, 0, none⟩), .pointer (some ⟨w.heap.size + 1 + 1 + 1, 0, none⟩)]) (by simp) (by simp [go_sem]) ?_
            refine (lcatch_panicking (w.heap.size + 1 + 1) (w.heap.size + 1 + 1 + 1) _ _ [] _ hbp hbq (by omega) w.heap.size (by omega) (by omega)).mono ?_
            rintro e u' w9 ⟨rfl, rfl, hp9, hq9, hb9⟩
            have d0 := hp9.cell 0
            have d1 := hq9.cell 0
            refine ⟨.tuple #[.string ⟨#[]⟩, .int .i64 1502], by simp [results, Tryd.results16, go_sem, d0, d1], ?_, HBW.out.trans hb9⟩
            rw [HS.out, HE.out, HRN.out]
            rfl
          | some m6 =>
            obtain ⟨rfl, t6, hm6, a6, g6⟩ := ends_some HEE.out hdm
            have HS6 : Hid (Runs ov.o R m6 ∧ m6.meas < t.mach.meas) := Lib.hid (by
              have h1 := HSTP.out
              rw [← HM4.out] at h1
              have h2 : doM ov.o t4.mach cm.cmd = some m6 := hdm
              rw [h2] at h1
              exact h1)
            have HC6 : Hid (ColOk m6) := Lib.hid (doM_col (m := t4.mach) (c := ⟨cm.ind, cm.flat, cm.d⟩) (wide_bound HGD4.out.ok).2 HCO4.out hdm)
            have HM6 := Lib.hid hm6
            have HA6 := Lib.hid a6
            have HG6 := Lib.hid ((HGO.out.trans HG4.out).trans g6)
            clear hdm a6 g6 hm6
            go_wp2_with fail
            go_roundg t6.mach.meas
            case measure => rw [HM6.out]; have := HS6.out.2; have := HME.out; omega
            case rel => exact ⟨t6, HA6.out, HG6.out, ⟨by rw [HM6.out]; exact HS6.out.1, by rw [HM6.out]; exact HC6.out, by rw [HM6.out]; have := HS6.out.2; have := HIN.out.meas; omega⟩, rfl, by rw [HM6.out]; have := HS6.out.2; have := HMT.out; omega⟩
  · have h3 : Below w1.heap.size w1 (W2.setCell ⟨w1.heap.size + 1, 14, none⟩ (.string ⟨#[13, 10]⟩)) := HB2.out.setCell (p := ⟨w1.heap.size + 1, 14, none⟩) (by simp) _
    have k3 := lay_mat ov HWI.out HTB.out rfl (nl := ⟨#[13, 10]⟩) (by rw [HNL.out]; first | done | rfl) HOV.out (B0 := w.heap.size) (mb := w1.heap.size) (b := w1.heap.size + 1) (HK2.out.set 14 (.string ⟨#[13, 10]⟩)) ((Below.heap_setCell W2 ⟨w1.heap.size + 1, 14, none⟩ _ w1.heap.size (by simp)).trans HM2.out) (by omega) (by omega) (by have := HZ2.out; simp; omega)
    have HW3 := Lib.hid h3
    have HK3 := Lib.hid k3
    clear h3 k3 n6 f6 o7'
    obtain ⟨W3, hW3⟩ : ∃ W3, W3 = W2.setCell ⟨w1.heap.size + 1, 14, none⟩ (.string ⟨#[13, 10]⟩) := ⟨_, rfl⟩
    rw [← hW3] at HW3 HK3 ⊢
    clear hW3
    have HB3 : Hid (Below w.heap.size w W3) := Lib.hid (HB1.out.trans (HW3.out.mono HB1.out.size))
    have hdat : DocAt W3 w.heap.size (lay0.F (w1.heap.size + 1) w1.heap.size W3) d ⟨w.heap.size, 0, none⟩ := lay_doc (HPQ.out.1.below HW3.out) (HKV.out.below HB3.out (Nat.le_refl _)) (by omega)
    have HP3 := Lib.hid (HPQ.out.2.1.below HW3.out)
    have HQ3 := Lib.hid (HPQ.out.2.2.below HW3.out)
    have HPU := Lib.hid (push_some (ind := []) (p := none) (ds := [d]) (la := [⟨w.heap.size, 0, none⟩]) (n := 1) (c := 1) HK3.out ((Below.refl W3.heap.size W3).alloc (Nat.le_refl _) (.cells #[.pointer (some ⟨w.heap.size, 0, none⟩)] 66)) rfl false (docs_single hdat) (fun x hx => by rw [List.mem_singleton] at hx; rw [hx]; exact start_ok HCD.out HBK.out) (by exact Blk.new' (W := W3) (g := W3.heap.size) [.pointer (some ⟨w.heap.size, 0, none⟩)] 66 rfl) (Nat.le_refl _) rfl (start_wt HBK.out))
    clear hdat
    go_wp2_with fail
    refine HPU.out.mono ?_
    intro e w5 he
    obtain ⟨rfl, t1, m1, a1, g1⟩ := he
    have HA1 := Lib.hid a1
    have HG1 := Lib.hid ((Goes.of_below (b := w1.heap.size + 1) (mb := w1.heap.size) (s := lay0) ((Below.refl W3.heap.size W3).alloc (Nat.le_refl _) (.cells #[.pointer (some ⟨w.heap.size, 0, none⟩)] 66))).trans g1)
    have HI1 : Hid (LInv ov.o R t1.mach) := Lib.hid (by rw [HRR.out, m1]; exact linv_start HBK.out)
    clear a1 g1 m1
    obtain ⟨b, hb⟩ : ∃ b, b = w1.heap.size + 1 := ⟨_, rfl⟩
    obtain ⟨mb, hmb⟩ : ∃ mb, mb = w1.heap.size := ⟨_, rfl⟩
    rw [← hb, ← hmb] at HA1 HG1 HK3
    rw [← hb]
    have HBE := Lib.hid hb
    have HME := Lib.hid hmb
    have HPX : Hid (∀ k, k = w.heap.size + 1 + 1 ∨ k = w.heap.size + 1 + 1 + 1 → k < W3.heap.size ∧ ¬ lay0.X b mb k) := Lib.hid (by
      intro k hk
      have h1 := HQ3.out.lt
      refine ⟨by omega, fun hx => ?_⟩
      rcases hx with hx | hx | hx | hx | hx
      · omega
      · omega
      · cases hx
      · cases hx
      · cases hx)
    clear hb hmb
    go_wp2_with fail
    go_loopg [] t1.mach.meas (fun k wr => ∃ t : MS, MAt w.heap.size b mb ov t wr ∧ Goes b mb lay0 t W3 wr ∧ LInv ov.o R t.mach ∧ t.mach.meas = k)
    case atStart => exact ⟨t1, HA1.out, HG1.out, HI1.out, rfl⟩
    case round =>
      obtain ⟨t0, hat0, hgo0, hin0, hme0⟩ := hrel
      have HAT0 := Lib.hid hat0
      have HGO0 := Lib.hid hgo0
      have HIN0 := Lib.hid hin0
      have HME0 := Lib.hid hme0
      clear hat0 hgo0 hin0 hme0
      go_wp2_with fail
      go_loopg [] t0.mach.meas (fun k wr => ∃ t : MS, MAt w.heap.size b mb ov t wr ∧ Goes b mb lay0 t W3 wr ∧ LInv ov.o R t.mach ∧ t.mach.meas = k ∧ t.mach.meas ≤ t0.mach.meas)
      case atStart => exact ⟨t0, HAT0.out, HGO0.out, HIN0.out, rfl, Nat.le_refl _⟩
      case round =>
        obtain ⟨t, hat, hgo, hin, hme, hmt⟩ := hrel
        have HAT := Lib.hid hat
        have HGO := Lib.hid hgo
        have HIN := Lib.hid hin
        have HME := Lib.hid hme
        have HMT := Lib.hid hmt
        have hsl := stk_len hat
        have hbl := hat.blk.lt
        have c11 := hat.cells.2.2.2.2.2.1
        have c12 := hat.cells.2.2.2.2.2.2.1
        obtain ⟨A2, n2, hvs⟩ := own_slice hat.stk
        obtain ⟨A3, n3, hvp⟩ := own_slice hat.put
        rw [hvs] at c11
        rw [hvp] at c12
        clear hat hgo hin hme hmt HAT0 HGO0 HIN0
        rcases List.eq_nil_or_concat t.stk with hst | ⟨l, cm, hst⟩
        · have HST := Lib.hid hst
          rw [hst] at c11
          simp only [List.length_nil] at c11
          clear hst hvs hvp
          by_cases hp : t.put = []
          · have HPN := Lib.hid hp
            rw [hp] at c12
            simp only [List.length_nil] at c12
            clear hp
            have c9 := HAT.out.cells.2.2.2.1
            have hcv := own_string HAT.out.out
            obtain ⟨A9, n9, hvo⟩ := own_slice HAT.out.out
            rw [hvo] at c9 hcv
            clear hvo
            have HRO : Hid (R = some t.out) := Lib.hid (HIN.out.runs.done (by unfold MS.mach; rw [HST.out]; rfl) (by unfold MS.mach; rw [HPN.out]; rfl))
            have hbp : Blk wr (w.heap.size + 1 + 1) [.string ⟨#[]⟩] 9 := (HGO.out.1.block _ (HPX.out _ (.inl rfl)).1 (HPX.out _ (.inl rfl)).2).trans HP3.out
            have hbq : Blk wr (w.heap.size + 1 + 1 + 1) [.int .i64 0] 29 := (HGO.out.1.block _ (HPX.out _ (.inr rfl)).1 (HPX.out _ (.inr rfl)).2).trans HQ3.out
            have d0 := hbp.cell 0
            have d1 := hbq.cell 0
            have f0 := hbp.frozen 0
            have f1 := hbq.frozen 0
            have HBQ := Lib.hid (And.intro hbp hbq)
            have HBW : Hid (Below w.heap.size w wr) := Lib.hid (HB3.out.trans (HK3.out.below_of HGO.out.1))
            clear hbp hbq
            go_wp2_with fail
            refine leaves_cons (f := 35) (args := #[.pointer (some ⟨w.heap.size + 1 + 1, 0, none⟩), .pointer (some ⟨w.heap.size + 1 + 1 + 1, 0, none⟩)]) (by simp) (by simp [go_sem]) ?_
            refine (lcatch_idle ⟨w.heap.size + 1 + 1, 0, none⟩ ⟨w.heap.size + 1 + 1 + 1, 0, none⟩ _).mono ?_
            rintro e u' w9 ⟨rfl, rfl, rfl⟩
            have x0 := ((HBQ.out.1.set 0 (.string (strOf t.out))).set_other (a := ⟨w.heap.size + 1 + 1 + 1, 0, none⟩) (by simp) (.int .i64 0)).cell 0
            have x1 := ((HBQ.out.2.set_other (a := ⟨w.heap.size + 1 + 1, 0, none⟩) (by simp) (.string (strOf t.out))).set 0 (.int .i64 0)).cell 0
            unfold strOf at x0 x1
            refine ⟨.tuple #[.string (strOf t.out), .int .i64 0], by unfold strOf; simp [results, Tryd.results16, go_sem, x0, x1], ?_, (HBW.out.setCell (p := ⟨w.heap.size + 1 + 1, 0, none⟩) (by simp; omega) _).setCell (p := ⟨w.heap.size + 1 + 1 + 1, 0, none⟩) (by simp; omega) _⟩
            rw [HS.out, HE.out, HRO.out]
            rfl
          · have HPN := Lib.hid hp
            obtain ⟨pm, hpm⟩ : ∃ pm, t.put.length = pm + 1 := ⟨t.put.length - 1, by have : t.put.length ≠ 0 := fun e => hp (List.length_eq_zero_iff.1 e); omega⟩
            rw [hpm] at c12
            have hpe : (((pm + 1 : Nat) : Int) == 0) = false := by simp; omega
            have hpe2 : ¬ (((pm + 1 : Nat) : Int) = 0) := by omega
            have hpe3 : decide (((pm + 1 : Nat) : Int) = 0) = false := by simp; omega
            clear hp
            have HFL := Lib.hid (flush_is HAT.out (by have h1 := HIN.out.meas; have h2 := weight_mach t; unfold Mach.meas at h1; unfold Mach.weight at h2; omega))
            have HFR := Lib.hid (HIN.out.runs.flush (by unfold MS.mach; rw [HST.out]; rfl) (by unfold MS.mach; simpa using HPN.out))
            have HCO := Lib.hid HIN.out.col
            go_wp2_with fail
            refine HFL.out.mono ?_
            intro e w6 he
            obtain ⟨rfl, t6, m6, a6, g6⟩ := he
            have HA6 := Lib.hid a6
            have HM6 := Lib.hid m6
            have HG6 := Lib.hid (HGO.out.trans g6)
            clear a6 m6 g6
            go_wp2_with fail
            go_roundg t6.mach.meas
            case measure => rw [HM6.out]; have := HFR.out.2; have := HMT.out; have := HME0.out; omega
            case rel => exact ⟨t6, HA6.out, HG6.out, ⟨by rw [HM6.out]; exact HFR.out.1, by rw [HM6.out]; exact HCO.out, by rw [HM6.out]; have := HFR.out.2; have := HIN.out.meas; omega⟩, rfl⟩
        · simp only [List.concat_eq_append] at hst
          have HST := Lib.hid hst
          have hln : t.stk.length = l.length + 1 := by rw [hst]; simp
          obtain ⟨g3, cap3, hv3, p0, p1, p2⟩ := row_cm HAT.out.stk (j := l.length) (by omega)
          have e3 := hvs.symm.trans hv3
          injection e3 with e31 e32 e33
          rw [e31, hln] at c11
          rw [e31, hln] at hvs
          have HVS := Lib.hid hvs
          have hcg : t.stk[l.length]'(by omega) = cm := by simp [hst]
          rw [hcg] at p0 p1 p2
          have hg3 := World.block_lt_of_cell? _ _ p0
          have hgb : g3 ≠ b := by
            have := HAT.out.ne.2.2.1 g3 (by rw [hv3]; rfl)
            exact this.1
          have hGOOD := HAT.out.good cm (List.mem_append_left _ (by rw [hst]; simp))
          have HGD := Lib.hid hGOOD
          have hcap1 : l.length + 1 ≤ n2 := by
            have h1 := HAT.out.stk
            rw [hvs, hln] at h1
            rcases h1.2 with ⟨h, _⟩ | ⟨g', cap', cur, h1, _, _, h4, _⟩
            · injection h with a1 a2 a3
              cases a1
            · injection h1 with a1 a2 a3
              omega
          obtain ⟨m, hm⟩ : ∃ m, m = l.length := ⟨_, rfl⟩
          rw [← hm] at c11 p0 p1 p2 hcap1
          have HMM := Lib.hid hm
          have hml : m ≤ 16777216 := by omega
          have hm0 : (0 : Int) < ((m + 1 : Nat) : Int) := by omega
          have hm1 : ((m + 1 : Nat) : Int) - 1 = (m : Int) := by omega
          have hwm : IntKind.i64.wrap (m : Int) = (m : Int) := by rw [IntKind.wrap_i64]; omega
          have hlt1 : (m : Int) < (m : Int) + 1 := by omega
          have hlt2 : (m : Int) ≤ (m : Int) + 1 := by omega
          have hlt3 : (m : Int) ≤ (n2 : Int) := by omega
          clear hst hv3 e31 e32 e33 hcg hm hGOOD hvs hln hvp c12
          go_upto_region 12 with fail
          refine Code.wp_mono noPanic_to ?_
          refine wp_region_seq (fun w' => w'.cell? ⟨b, 11, none⟩ = some (.slice (some ⟨g3, 0, none⟩) (m + 1) n2) ∧ w'.cell? ⟨g3, m * 3, none⟩ = some (.pointer cm.p) ∧ w'.cell? ⟨g3, m * 3 + 1, none⟩ = some (.bool cm.flat) ∧ w'.cell? ⟨g3, m * 3 + 2, none⟩ = some (.pointer (some cm.a))) 12 2 (by kernel_rfl) rfl (by kernel_rfl) (by intro _ _ _ _ _ h; exact h.elim) ⟨c11, p0, p1, p2⟩ ?_
          simp only [List.take_succ_cons, List.take_zero, List.drop_succ_cons, List.drop_zero, List.cons_append, List.nil_append]
          repeat (refine wpHeld_step rfl ?_; apply Exists.intro; refine ⟨fun wq hq => ?_, ?_⟩; (obtain ⟨q1, q2, q3, q4⟩ := hq; go_simp; first | done | rfl); simp only [Act.put, List.setIfInBounds_toArray, List.set_cons_zero, List.set_cons_succ])
          change wpSeq _ _ _ _ _ _ _
          refine wpSeq_step rfl (fun K hK => ?_)
          go_simp
          have hbV : Below wr.heap.size wr (wr.alloc (.cells #[.pointer none, .bool false, .pointer none] 69)).drew := ((Below.refl _ wr).alloc (Nat.le_refl _) _).drew
          have hkV : Blk (wr.alloc (.cells #[.pointer none, .bool false, .pointer none] 69)).drew wr.heap.size [.pointer none, .bool false, .pointer none] 69 := Blk.new' (W := wr) _ _ rfl
          obtain ⟨V, hV⟩ : ∃ V, V = (wr.alloc (.cells #[.pointer none, .bool false, .pointer none] 69)).drew := ⟨_, rfl⟩
          rw [← hV] at hbV hkV ⊢
          clear hV
          refine hK _ _ ⟨(hbV.cell (p := ⟨b, 11, none⟩) hbl).trans c11, (hbV.cell (p := ⟨g3, m * 3, none⟩) hg3).trans p0, (hbV.cell (p := ⟨g3, m * 3 + 1, none⟩) hg3).trans p1, (hbV.cell (p := ⟨g3, m * 3 + 2, none⟩) hg3).trans p2⟩ ?_
          clear hK K
          try simp only [Act.put, List.setIfInBounds_toArray, List.set_cons_zero, List.set_cons_succ]
          have hk1 := hkV.set 0 (.pointer cm.p)
          have hk2 := hk1.set 1 (.bool cm.flat)
          have hk3 := hk2.set 2 (.pointer (some cm.a))
          simp only [List.set_cons_zero, List.set_cons_succ] at hk1 hk2 hk3
          have hb3 : Below wr.heap.size wr (((V.setCell ⟨wr.heap.size, 0, none⟩ (.pointer cm.p)).setCell ⟨wr.heap.size, 1, none⟩ (.bool cm.flat)).setCell ⟨wr.heap.size, 2, none⟩ (.pointer (some cm.a))) := ((hbV.setCell (p := ⟨wr.heap.size, 0, none⟩) (Nat.le_refl _) _).setCell (p := ⟨wr.heap.size, 1, none⟩) (Nat.le_refl _) _).setCell (p := ⟨wr.heap.size, 2, none⟩) (Nat.le_refl _) _
          have z0 := hkV.cell 0
          have z1 := hk1.cell 1
          have z2 := hk2.cell 2
          have f0 := hkV.frozen 0
          have f1 := hk1.frozen 1
          have f2 := hk2.frozen 2
          simp only [List.getElem?_cons_zero, List.getElem?_cons_succ] at z0 z1 z2
          have HB3' := Lib.hid hb3
          have HK3' := Lib.hid hk3
          clear hkV hk1 hk2 hk3 hb3 hbV
          refine wpSeq_step rfl (fun K hK => ?_)
          go_simp
          obtain ⟨V3, hV3⟩ : ∃ V3, V3 = (((V.setCell ⟨wr.heap.size, 0, none⟩ (.pointer cm.p)).setCell ⟨wr.heap.size, 1, none⟩ (.bool cm.flat)).setCell ⟨wr.heap.size, 2, none⟩ (.pointer (some cm.a))) := ⟨_, rfl⟩
          rw [← hV3] at HB3' HK3' ⊢
          clear hV3 z0 z1 z2 f0 f1 f2
          have d11 := (HB3'.out.cell (p := ⟨b, 11, none⟩) hbl).trans c11
          refine hK _ _ ⟨d11, (HB3'.out.cell (p := ⟨g3, m * 3, none⟩) hg3).trans p0, (HB3'.out.cell (p := ⟨g3, m * 3 + 1, none⟩) hg3).trans p1, (HB3'.out.cell (p := ⟨g3, m * 3 + 2, none⟩) hg3).trans p2⟩ ?_
          clear hK K
          try simp only [Act.put, List.setIfInBounds_toArray, List.set_cons_zero, List.set_cons_succ]
          refine seq_end_np ?_
          have HAT3 := Lib.hid (HAT.out.below HB3'.out)
          have HPOP := Lib.hid (fun (VV : World) (hb : Below V3.heap.size V3 VV) => (HAT3.out.below hb).popStk HST.out (by rw [HVS.out]) _ rfl)
          have g11 := HAT3.out.blk.frozen 11
          have hbw : b < V3.heap.size := HAT3.out.blk.lt
          clear c11 p0 p1 p2
          go_upto_region 13 with fail
          refine Code.wp_mono noPanic_to ?_
          refine wp_region_chain2 (fun w' => w'.cell? ⟨b, 11, none⟩ = some (.slice (some ⟨g3, 0, none⟩) (m + 1) n2)) 12 2 _ (by kernel_rfl) rfl (by kernel_rfl) (by kernel_rfl) (by intro _ _ _ _ _ h; exact h.elim) d11 ?_
          simp only [List.take_succ_cons, List.take_zero, List.drop_succ_cons, List.drop_zero, List.cons_append, List.nil_append]
          repeat (refine wpHeld_step rfl ?_; apply Exists.intro; refine ⟨fun wq hq => ?_, ?_⟩; (have q1 := hq; go_simp; first | done | rfl); simp only [Act.put, List.setIfInBounds_toArray, List.set_cons_zero, List.set_cons_succ])
          change wpSeq _ _ _ _ _ _ _
          refine wpSeq_step rfl (fun K hK => ?_)
          go_simp
          refine hK _ _ d11 ?_
          clear hK K
          try simp only [Act.put, List.setIfInBounds_toArray, List.set_cons_zero, List.set_cons_succ]
          refine wpSeq_step rfl (fun K hK => ?_)
          go_simp
          refine hK _ _ d11 ?_
          clear hK K
          try simp only [Act.put, List.setIfInBounds_toArray, List.set_cons_zero, List.set_cons_succ]
          change Oper.wp _ _ _ _ _ _
          go_simp
          refine np_end ?_
          obtain ⟨V4, hV4⟩ : ∃ V4, V4 = (V3.setCell ⟨b, 11, none⟩ (.slice (some ⟨g3, 0, none⟩) m n2)).drew := ⟨_, rfl⟩
          have hpop := HPOP.out V3.drew (Below.refl V3.heap.size V3).drew
          rw [← HMM.out] at hpop
          have hw4 : V3.drew.setCell ⟨b, 11, none⟩ (.slice (some ⟨g3, 0, none⟩) m n2) = V4 := by rw [hV4]; rfl
          rw [hw4] at hpop
          rw [← hV4]
          have hbr : b ≠ wr.heap.size := by omega
          have hkb : V4.heap[wr.heap.size]? = V3.heap[wr.heap.size]? := by rw [hV4]; exact Below.heap_setCell V3 ⟨b, 11, none⟩ _ wr.heap.size (Ne.symm hbr)
          have hk4 : Blk V4 wr.heap.size [.pointer cm.p, .bool cm.flat, .pointer (some cm.a)] 69 := hkb.trans HK3'.out
          have b0 := hk4.cell 0
          have b1 := hk4.cell 1
          have b2 := hk4.cell 2
          simp only [List.getElem?_cons_zero, List.getElem?_cons_succ] at b0 b1 b2
          have HP4 := Lib.hid hpop
          have HG4 := Lib.hid (((Goes.of_below (b := b) (mb := mb) (s := t) HB3'.out).trans (Goes.of_below (Below.refl V3.heap.size V3).drew)).trans hpop.2)
          obtain ⟨t4, ht4⟩ : ∃ t4, t4 = ({ t with stk := l, vs := .slice (some ⟨g3, 0, none⟩) m n2 } : MS) := ⟨_, rfl⟩
          rw [← ht4] at HP4 HG4
          have HM4 : Hid (t4.mach = { t.mach with stk := (l.map Cm.cmd).reverse }) := Lib.hid (by rw [ht4]; rfl)
          have HTS : Hid (t.mach.stk = cm.cmd :: (l.map Cm.cmd).reverse) := Lib.hid (by unfold MS.mach; rw [HST.out]; simp)
          have HWT : Hid (t4.weight + cm.d.wt ≤ 8388608) := Lib.hid (by
            have h1 := HIN.out.meas
            have h2 := weight_mach t4
            unfold Mach.meas at h1
            rw [HTS.out, wtC_cons] at h1
            rw [HM4.out] at h2
            unfold Mach.weight at h2
            have h3 : cm.cmd.d.wt = cm.d.wt := rfl
            have h4 : ({ t.mach with stk := (l.map Cm.cmd).reverse } : Mach).put = t.mach.put := rfl
            have h5 : ({ t.mach with stk := (l.map Cm.cmd).reverse } : Mach).stk = (l.map Cm.cmd).reverse := rfl
            rw [h4, h5] at h2
            omega)
          have HGD4 := Lib.hid (HAT.out.good_goes HG4.out HGD.out)
          have HCO4 : Hid (t4.col ≤ 1000000000000 + (t4.out.length : Int)) := Lib.hid (by rw [ht4]; exact HIN.out.col)
          clear hV4 hpop hw4 hkb hk4 ht4 d11 g11 HPOP
          have HDO := Lib.hid (do_is HP4.out.1 HGD4.out.ind cm.flat HGD4.out.doc HGD4.out.ok HWT.out HCO4.out)
          have HSTP := Lib.hid (HIN.out.runs.step HTS.out)
          go_wp2_with fail
          refine HDO.out.mono ?_
          intro e w6 he
          have HEE := Lib.hid he
          clear he
          cases hdm : doM ov.o t4.mach ⟨cm.ind, cm.flat, cm.d⟩ with
          | none =>
            obtain ⟨rfl, hfr⟩ := ends_none HEE.out hdm
            have HRN : Hid (R = none) := Lib.hid (by
              have h1 := HSTP.out
              rw [← HM4.out] at h1
              have h2 : doM ov.o t4.mach cm.cmd = none := hdm
              rw [h2] at h1
              exact h1)
            have hfr2 := ends_long (HGO.out.trans HG4.out) hfr
            have hbp : Blk w6 (w.heap.size + 1 + 1) [.string ⟨#[]⟩] 9 := (hfr2.block _ (HPX.out _ (.inl rfl)).1 (HPX.out _ (.inl rfl)).2).trans HP3.out
            have hbq : Blk w6 (w.heap.size + 1 + 1 + 1) [.int .i64 0] 29 := (hfr2.block _ (HPX.out _ (.inr rfl)).1 (HPX.out _ (.inr rfl)).2).trans HQ3.out
            have HBW : Hid (Below w.heap.size w w6) := Lib.hid (HB3.out.trans (HK3.out.below_of hfr2))
            clear hdm hfr hfr2
            refine leaves_cons (f := 35) (args := #[.pointer (some ⟨w.heap.size + 1 + 1, 0, none⟩), .pointer (some ⟨w.heap.size + 1 + 1 + 1, 0, none⟩)]) (by simp) (by simp [go_sem]) ?_
            refine (lcatch_panicking (w.heap.size + 1 + 1) (w.heap.size + 1 + 1 + 1) _ _ [] _ hbp hbq (by omega) w.heap.size (by omega) (by omega)).mono ?_
            rintro e u' w9 ⟨rfl, rfl, hp9, hq9, hb9⟩
            have d0 := hp9.cell 0
            have d1 := hq9.cell 0
            refine ⟨.tuple #[.string ⟨#[]⟩, .int .i64 1502], by simp [results, Tryd.results16, go_sem, d0, d1], ?_, HBW.out.trans hb9⟩
            rw [HS.out, HE.out, HRN.out]
            rfl
          | some m6 =>
            obtain ⟨rfl, t6, hm6, a6, g6⟩ := ends_some HEE.out hdm
            have HS6 : Hid (Runs ov.o R m6 ∧ m6.meas < t.mach.meas) := Lib.hid (by
              have h1 := HSTP.out
              rw [← HM4.out] at h1
              have h2 : doM ov.o t4.mach cm.cmd = some m6 := hdm
              rw [h2] at h1
              exact h1)
            have HC6 : Hid (ColOk m6) := Lib.hid (doM_col (m := t4.mach) (c := ⟨cm.ind, cm.flat, cm.d⟩) (wide_bound HGD4.out.ok).2 HCO4.out hdm)
            have HM6 := Lib.hid hm6
            have HA6 := Lib.hid a6
            have HG6 := Lib.hid ((HGO.out.trans HG4.out).trans g6)
            clear hdm a6 g6 hm6
            go_wp2_with fail
            go_roundg t6.mach.meas
            case measure => rw [HM6.out]; have := HS6.out.2; have := HME.out; omega
            case rel => exact ⟨t6, HA6.out, HG6.out, ⟨by rw [HM6.out]; exact HS6.out.1, by rw [HM6.out]; exact HC6.out, by rw [HM6.out]; have := HS6.out.2; have := HIN.out.meas; omega⟩, rfl, by rw [HM6.out]; have := HS6.out.2; have := HMT.out; omega⟩

/-- Layout: what it answers. -/
theorem layout_any (d : Doc) (kv : Value) (ov : OptV) (w : World) (hk : KV w 0 w.heap.size d kv) (hb : d.bulk ≤ 4194304) (hT : Tabs w) :
    Calls Tryd.prog 16 #[docV d kv, .agg ov.cells.toArray] w fun e w' => e = .returned (.tuple #[.string (strOf (layN d ov.o).1), .int .i64 (layN d ov.o).2]) ∧ Below w.heap.size w w' := by
  unfold layN
  cases ho : optOk ov.o with
  | false => simpa [strOf] using layout_bad d kv ov w ho
  | true =>
    rw [if_neg (by simp)]
    by_cases hc : d.code = 0
    · rw [if_neg (by simpa using hc)]
      refine (layout_main d kv ov w ho hk hb hT hc).mono ?_
      rintro e w' ⟨rfl, h⟩
      refine ⟨?_, h⟩
      cases runM ov.o (2 * d.nodes) (startM d) with
      | none => rfl
      | some l => rfl
    · rw [if_pos hc]
      simpa [strOf] using layout_code d kv ov w ho hk hb hT hc
end Go.Proofs.YthljgiimdcbfpaaDoor
