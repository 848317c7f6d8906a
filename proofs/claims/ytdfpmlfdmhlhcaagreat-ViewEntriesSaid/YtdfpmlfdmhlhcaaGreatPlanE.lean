/- Package plan: Make. (Printed by wip/tools/gen_plane.py.) -/
import Derived.Test.YtdfpmlfdmhlhcaaGreatPlanD
namespace Go.Proofs.YtdfpmlfdmhlhcaaGreat
open Go.RowKit
theorem results_cell_row2 {fn : Func} {p u : Tmp} {ty : TypeId} {fs : Array Field} (h : fn.results = #[.cell p ty, .tmp u]) (tmps : Array Value) (w : World) (g : Nat) (t : TypeId) (cs : Array Value) (fr : Nat × Nat)
    (hp : tmps.getD p undef = .pointer (some ⟨g, 0, none⟩)) (hg : w.heap[g]? = some (.cells cs t fr))
    (hu : Tryz.prog.underlying ty = some (.struct fs)) (hi : (Tryz.prog.info? ty).map (·.size) = some cs.size) :
    (results fn tmps).run Tryz.prog w = .ok (.tuple #[.agg cs, tmps.getD u undef]) w := by
  have hp' : tmps[p]?.getD undef = .pointer (some ⟨g, 0, none⟩) := by simpa using hp
  simp [results, h, hp', asAddr, run_loadVar_row w g t ty cs fr _ hg hu rfl hi]
theorem step_store_row {P : Program} {ops : Array Oper} {o : Oper} {a : Act} {w : World} {K : Act → World → Prop} {Q : Exit → Act → World → Prop} {E : Prop} (hgd : o.guard = none) (ty : TypeId) (x y : Operand) (ho : o.op = .store ty x y)
    (g : Nat) (cells : Array Value) (hx : a.eval x = .pointer (some ⟨g, 0, none⟩)) (hy : a.eval y = .agg cells)
    (t : TypeId) (old : Array Value) (hg : w.heap[g]? = some (.cells old t (0, 0))) (hi : (P.info? ty).map (·.size) = some cells.size)
    (hold : old.size = cells.size) (h1 : cells.all (·.oneCell') = true) (h : K (a.put o.dst undef) (w.setRow g cells)) : if Region.wanted o (yielded ops a.tmps) = true then Oper.wp P o a w K Q else E := by
  have hw : Region.wanted o (yielded ops a.tmps) = true := by simp [Region.wanted, hgd]
  rw [if_pos hw]
  exact wp_store_row ty x y ho g cells hx hy t old hg hi hold h1 h
theorem info_plan : (Tryz.prog.info? 25).map (·.size) = some 8 := by kernel_rfl
/-- a plan's parts -/
structure Pl where
  deal : Int
  ps : List Int
  ls : List (List It)
  hash : List UInt8
  start : Int
  eps : Int
  wait : Int
  dl : List Int
def Pl.zero : Pl := ⟨0, [], [], [], 0, 0, 0, []⟩
def IsPl (S : Nat → Prop) (w : World) (v : Value) (P : Pl) : Prop :=
  ∃ p1 c1 p2 c2 p7 c7, v = .agg #[.int .i64 P.deal, .slice p1 P.ps.length c1, .slice p2 P.ls.length c2, .string ⟨P.hash.toArray⟩, .int .i64 P.start, .int .i64 P.eps, .int .i64 P.wait, .slice p7 P.dl.length c7] ∧
    IsRow S w (.slice p1 P.ps.length c1) (P.ps.map (.int .i64)) ∧ IsLegs S w (.slice p2 P.ls.length c2) P.ls ∧ IsRow S w (.slice p7 P.dl.length c7) (P.dl.map (.int .i64))
theorem IsPl.mod {S T : Nat → Prop} {w w' : World} {v : Value} {P : Pl} (h : IsPl S w v P) (m : Mod T w w') (hs : ∀ k, k < w.heap.size → S k → ¬ T k) : IsPl S w' v P := by
  obtain ⟨p1, c1, p2, c2, p7, c7, hv, h1, h2, h3⟩ := h
  exact ⟨p1, c1, p2, c2, p7, c7, hv, h1.mod m hs, h2.mod m hs, h3.mod m hs⟩
theorem IsPl.modNil {S : Nat → Prop} {w w' : World} {v : Value} {P : Pl} (h : IsPl S w v P) (m : Mod Go.Proofs.YtdfpmlfdmhlhcaaGreat.nil w w') : IsPl S w' v P := h.mod m (fun _ _ _ f => f)
theorem IsPl.mono {S T : Nat → Prop} {w : World} {v : Value} {P : Pl} (h : IsPl S w v P) (hs : ∀ k, k < w.heap.size → S k → T k) : IsPl T w v P := by
  obtain ⟨p1, c1, p2, c2, p7, c7, hv, h1, h2, h3⟩ := h
  exact ⟨p1, c1, p2, c2, p7, c7, hv, h1.mono hs, h2.mono hs, h3.mono hs⟩
theorem IsPl.zero (S : Nat → Prop) (w : World) : IsPl S w (.agg #[.int .i64 0, .slice none 0 0, .slice none 0 0, .string ⟨#[]⟩, .int .i64 0, .int .i64 0, .int .i64 0, .slice none 0 0]) Pl.zero :=
  ⟨none, 0, none, 0, none, 0, rfl, ⟨none, 0, rfl, fun i hi => by simp [Pl.zero] at hi⟩, ⟨[], ⟨none, 0, rfl, fun i hi => by simp at hi⟩, trivial⟩, ⟨none, 0, rfl, fun i hi => by simp [Pl.zero] at hi⟩⟩
def mayN (deal : Int) (ps : List Int) (ls : List (List It)) (start eps wait : Int) : Prop :=
  0 ≤ deal ∧ deal ≤ 65535 ∧ partiesN ps ∧ ls.length = ps.length ∧ ls.all legB = true ∧ tickN start ∧ timesN eps wait
instance (deal : Int) (ps : List Int) (ls : List (List It)) (start eps wait : Int) : Decidable (mayN deal ps ls start eps wait) := inferInstanceAs (Decidable (_ ∧ _))
def makeN (deal : Int) (ps : List Int) (ls : List (List It)) (hash : List UInt8) (start eps wait : Int) : Pl × Int :=
  if mayN deal ps ls start eps wait then
    match ladderN ps.length start eps wait with
    | none => (Pl.zero, 1)
    | some l => if hash.length = 32 then (⟨deal, ps, ls, hash, start, eps, wait, l⟩, 0) else (Pl.zero, 2)
  else (Pl.zero, 1)
set_option maxRecDepth 100000 in
set_option maxHeartbeats 8000000 in
theorem planMake (T : Nat → Prop) (deal start eps wait : Int) (pp pl : Option Addr) (np cp nl cl : Nat) (ps : List Int) (ls : List (List It)) (hash : List UInt8) (w : World)
    (hp : IsRow T w (.slice pp np cp) (ps.map (.int .i64))) (hl : IsLegs T w (.slice pl nl cl) ls) (hnp : np ≤ 1000000) (hnl : nl ≤ 1000000) (hll : ∀ l ∈ ls, l.length ≤ 1000000) (hhs : hash.length ≤ 1000000000) :
    Calls Tryz.prog 57 #[.int .i64 deal, .agg #[.slice pp np cp, .slice pl nl cl], .string ⟨hash.toArray⟩, .int .i64 start, .int .i64 eps, .int .i64 wait] w fun e w' => ∃ v, e = .returned (.tuple #[v, .int .i64 (makeN deal ps ls hash start eps wait).2]) ∧ IsPl (fun k => w.heap.size ≤ k) w' v (makeN deal ps ls hash start eps wait).1 ∧ Mod nil w w' := by
  refine (?_ : ∀ Post : Ending → World → Prop, Hid (∀ e w', (∃ v, e = .returned (.tuple #[v, .int .i64 (makeN deal ps ls hash start eps wait).2]) ∧ IsPl (fun k => w.heap.size ≤ k) w' v (makeN deal ps ls hash start eps wait).1 ∧ Mod nil w w') → Post e w') → Calls Tryz.prog 57 #[.int .i64 deal, .agg #[.slice pp np cp, .slice pl nl cl], .string ⟨hash.toArray⟩, .int .i64 start, .int .i64 eps, .int .i64 wait] w Post) _ (Lib.hid (fun _ _ h => h))
  intro Post HPOST
  have hpl : ps.length = np := by obtain ⟨_, _, h, _⟩ := hp; simp only [Value.slice.injEq, List.length_map] at h; exact h.2.1.symm
  have hll2 : ls.length = nl := by obtain ⟨_, _, h⟩ := hl.form; simp only [Value.slice.injEq] at h; exact h.2.1.symm
  have HP := Lib.hid hp
  have HL := Lib.hid hl
  have HPL := Lib.hid hpl
  have HLL := Lib.hid hll2
  have HLS := Lib.hid hll
  clear hp hl hpl hll2 hll
  obtain ⟨r, hr⟩ : ∃ r, w.heap.size = r := ⟨_, rfl⟩
  obtain ⟨G, hG⟩ : ∃ G, r + 1 = G := ⟨_, rfl⟩
  have HSL : Hid (∀ l ∈ ls, l.length ≤ 1000000) := HLS
  go_enter Tryz.func57, Tryz.ntmps57
  go_upto_region 1 with (fail)
  (try rw [hr])
  (try rw [hG])
  generalize hw1 : World.alloc (World.alloc w _) _ = w1
  have hm1 : Mod nil w w1 := by rw [← hw1]; exact ((Mod.refl _ _).alloc _).alloc _
  have hbr : w1.heap[r]? = some (.cells #[.slice pp np cp, .slice pl nl cl] 73 (0, 0)) := by rw [← hw1]; exact heap_alloc_old (by rw [← hr]; exact heap_alloc_new _ _)
  have hbG : w1.heap[G]? = some (.cells #[.int .i64 0, .slice none 0 0, .slice none 0 0, .string ⟨#[]⟩, .int .i64 0, .int .i64 0, .int .i64 0, .slice none 0 0] 25 (0, 0)) := by
    rw [← hw1]
    have := heap_alloc_new (w.alloc (.cells #[.slice pp np cp, .slice pl nl cl] 73)) (.cells #[.int .i64 0, .slice none 0 0, .slice none 0 0, .string ⟨#[]⟩, .int .i64 0, .int .i64 0, .int .i64 0, .slice none 0 0] 25)
    rw [World.size_alloc, hr, hG] at this
    exact this
  have c0w1 := cell_of hbr 0
  have c1w1 := cell_of hbr 1
  simp only [List.getElem?_toArray, List.getElem?_cons_zero, List.getElem?_cons_succ] at c0w1 c1w1
  have HZw1 := Lib.hid hbG
  have HMw1 := Lib.hid hm1
  have HGE : Hid (w.heap.size ≤ G) := Lib.hid (by omega)
  have HZERO : Hid (∀ (W : World) (er : Int), Mod nil w W → W.heap[G]? = some (.cells #[.int .i64 0, .slice none 0 0, .slice none 0 0, .string ⟨#[]⟩, .int .i64 0, .int .i64 0, .int .i64 0, .slice none 0 0] 25 (0, 0)) → makeN deal ps ls hash start eps wait = (Pl.zero, er) → Post (.returned (.tuple #[.agg #[.int .i64 0, .slice none 0 0, .slice none 0 0, .string ⟨#[]⟩, .int .i64 0, .int .i64 0, .int .i64 0, .slice none 0 0], .int .i64 er])) (W.setRow G #[.int .i64 0, .slice none 0 0, .slice none 0 0, .string ⟨#[]⟩, .int .i64 0, .int .i64 0, .int .i64 0, .slice none 0 0])) := Lib.hid (fun W er hm hz he => HPOST.out _ _ ⟨_, by rw [he], by rw [he]; exact IsPl.zero _ _, hm.trans ((Mod.refl (· = G) W).rowSet G _ (fun _ => rfl)) (fun k hk e => by have := HGE.out; omega)⟩)
  have HMAY : Hid (¬ mayN deal ps ls start eps wait → makeN deal ps ls hash start eps wait = (Pl.zero, 1)) := Lib.hid (fun h => if_neg h)
  clear hw1 hm1 hbr hbG hr hG
  by_cases hd0 : deal < 0
  · have HE := Lib.hid (HZERO.out w1 1 HMw1.out HZw1.out (HMAY.out (fun h => by have := h.1; omega)))
    go_wp2_with (refine wpList_store_row rfl _ _ _ rfl G #[.int .i64 0, .slice none 0 0, .slice none 0 0, .string ⟨#[]⟩, .int .i64 0, .int .i64 0, .int .i64 0, .slice none 0 0] rfl rfl 25 _ HZw1.out info_plan rfl (by simp [Value.oneCell']) ?_)
    refine bodyPost_ret (results_cell_row2 rfl _ _ G 25 #[.int .i64 0, .slice none 0 0, .slice none 0 0, .string ⟨#[]⟩, .int .i64 0, .int .i64 0, .int .i64 0, .slice none 0 0] (0, 0) rfl (setRow_heap w1 G _ #[.int .i64 0, .slice none 0 0, .slice none 0 0, .string ⟨#[]⟩, .int .i64 0, .int .i64 0, .int .i64 0, .slice none 0 0] _ _ HZw1.out) Tryz.underlying25 info_plan) rfl ?_
    exact HE.out

  by_cases hd1 : 65535 < deal
  · have HE := Lib.hid (HZERO.out w1 1 HMw1.out HZw1.out (HMAY.out (fun h => by have := h.2.1; omega)))
    go_wp2_with (refine wpList_store_row rfl _ _ _ rfl G #[.int .i64 0, .slice none 0 0, .slice none 0 0, .string ⟨#[]⟩, .int .i64 0, .int .i64 0, .int .i64 0, .slice none 0 0] rfl rfl 25 _ HZw1.out info_plan rfl (by simp [Value.oneCell']) ?_)
    refine bodyPost_ret (results_cell_row2 rfl _ _ G 25 #[.int .i64 0, .slice none 0 0, .slice none 0 0, .string ⟨#[]⟩, .int .i64 0, .int .i64 0, .int .i64 0, .slice none 0 0] (0, 0) rfl (setRow_heap w1 G _ #[.int .i64 0, .slice none 0 0, .slice none 0 0, .string ⟨#[]⟩, .int .i64 0, .int .i64 0, .int .i64 0, .slice none 0 0] _ _ HZw1.out) Tryz.underlying25 info_plan) rfl ?_
    exact HE.out

  have HPC := Lib.hid (planParties T pp np cp ps w1 (HP.out.modNil HMw1.out) HPL.out hnp)
  by_cases hpp : partiesN ps
  case neg =>
    rw [decide_eq_false hpp] at HPC
    have HN := Lib.hid (HMAY.out (fun h => hpp h.2.2.1))
    clear hpp
    go_wp2_with fail
    refine (HPC.out).mono ?_
    rintro e w2 ⟨rfl, hmw2⟩
    have c0w2 := cell_kept c0w1 hmw2 (World.block_lt_of_cell? _ _ c0w1) (not_nil _)
    have c1w2 := cell_kept c1w1 hmw2 (World.block_lt_of_cell? _ _ c1w1) (not_nil _)
    have HZw2 := Lib.hid (hmw2.keep HZw1.out)
    have HMw2 := Lib.hid (HMw1.out.thenNil hmw2)
    clear c0w1 c1w1 hmw2
    have HE := Lib.hid (HZERO.out w2 1 HMw2.out HZw2.out (HN.out))
    go_wp2_with (refine wpList_store_row rfl _ _ _ rfl G #[.int .i64 0, .slice none 0 0, .slice none 0 0, .string ⟨#[]⟩, .int .i64 0, .int .i64 0, .int .i64 0, .slice none 0 0] rfl rfl 25 _ HZw2.out info_plan rfl (by simp [Value.oneCell']) ?_)
    refine bodyPost_ret (results_cell_row2 rfl _ _ G 25 #[.int .i64 0, .slice none 0 0, .slice none 0 0, .string ⟨#[]⟩, .int .i64 0, .int .i64 0, .int .i64 0, .slice none 0 0] (0, 0) rfl (setRow_heap w2 G _ #[.int .i64 0, .slice none 0 0, .slice none 0 0, .string ⟨#[]⟩, .int .i64 0, .int .i64 0, .int .i64 0, .slice none 0 0] _ _ HZw2.out) Tryz.underlying25 info_plan) rfl ?_
    exact HE.out

  rw [decide_eq_true hpp] at HPC
  have HPP := Lib.hid hpp
  clear hpp
  have h2n : 2 ≤ np ∧ np ≤ 16 := by rw [← HPL.out]; exact ⟨HPP.out.1, HPP.out.2.1⟩
  go_wp2_with fail
  refine (HPC.out).mono ?_
  rintro e w2 ⟨rfl, hmw2⟩
  have c0w2 := cell_kept c0w1 hmw2 (World.block_lt_of_cell? _ _ c0w1) (not_nil _)
  have c1w2 := cell_kept c1w1 hmw2 (World.block_lt_of_cell? _ _ c1w1) (not_nil _)
  have HZw2 := Lib.hid (hmw2.keep HZw1.out)
  have HMw2 := Lib.hid (HMw1.out.thenNil hmw2)
  clear c0w1 c1w1 hmw2

  by_cases hlen : nl = np
  case neg =>
    have HN := Lib.hid (HMAY.out (fun h => hlen (by rw [← HPL.out, ← HLL.out]; exact h.2.2.2.1)))
    have hbn : ((nl : Int) != (np : Int)) = true := by rw [bne_iff_ne]; omega
    have HE := Lib.hid (HZERO.out w2 1 HMw2.out HZw2.out (HN.out))
    go_wp2_with (refine wpList_store_row rfl _ _ _ rfl G #[.int .i64 0, .slice none 0 0, .slice none 0 0, .string ⟨#[]⟩, .int .i64 0, .int .i64 0, .int .i64 0, .slice none 0 0] rfl rfl 25 _ HZw2.out info_plan rfl (by simp [Value.oneCell']) ?_)
    refine bodyPost_ret (results_cell_row2 rfl _ _ G 25 #[.int .i64 0, .slice none 0 0, .slice none 0 0, .string ⟨#[]⟩, .int .i64 0, .int .i64 0, .int .i64 0, .slice none 0 0] (0, 0) rfl (setRow_heap w2 G _ #[.int .i64 0, .slice none 0 0, .slice none 0 0, .string ⟨#[]⟩, .int .i64 0, .int .i64 0, .int .i64 0, .slice none 0 0] _ _ HZw2.out) Tryz.underlying25 info_plan) rfl ?_
    exact HE.out

  subst hlen
  have hbn : ((nl : Int) != (nl : Int)) = false := by simp
  have HCC := Lib.hid (containsLegs T pl nl cl ls w2 (HL.out.modNil HMw2.out) hnl HLS.out)
  by_cases hal : ls.all legB = true
  case neg =>
    have hal' : ls.all legB = false := by simpa using hal
    rw [hal'] at HCC
    have HN := Lib.hid (HMAY.out (fun h => hal h.2.2.2.2.1))
    clear hal hal'
    go_wp2_with fail
    refine (HCC.out).mono ?_
    rintro e w3 ⟨rfl, hmw3⟩
    have c0w3 := cell_kept c0w2 hmw3 (World.block_lt_of_cell? _ _ c0w2) (not_nil _)
    have c1w3 := cell_kept c1w2 hmw3 (World.block_lt_of_cell? _ _ c1w2) (not_nil _)
    have HZw3 := Lib.hid (hmw3.keep HZw2.out)
    have HMw3 := Lib.hid (HMw2.out.thenNil hmw3)
    clear c0w2 c1w2 hmw3
    have HE := Lib.hid (HZERO.out w3 1 HMw3.out HZw3.out (HN.out))
    go_wp2_with (refine wpList_store_row rfl _ _ _ rfl G #[.int .i64 0, .slice none 0 0, .slice none 0 0, .string ⟨#[]⟩, .int .i64 0, .int .i64 0, .int .i64 0, .slice none 0 0] rfl rfl 25 _ HZw3.out info_plan rfl (by simp [Value.oneCell']) ?_)
    refine bodyPost_ret (results_cell_row2 rfl _ _ G 25 #[.int .i64 0, .slice none 0 0, .slice none 0 0, .string ⟨#[]⟩, .int .i64 0, .int .i64 0, .int .i64 0, .slice none 0 0] (0, 0) rfl (setRow_heap w3 G _ #[.int .i64 0, .slice none 0 0, .slice none 0 0, .string ⟨#[]⟩, .int .i64 0, .int .i64 0, .int .i64 0, .slice none 0 0] _ _ HZw3.out) Tryz.underlying25 info_plan) rfl ?_
    exact HE.out

  rw [hal] at HCC
  have HAL := Lib.hid hal
  clear hal
  go_wp2_with fail
  refine (HCC.out).mono ?_
  rintro e w3 ⟨rfl, hmw3⟩
  have c0w3 := cell_kept c0w2 hmw3 (World.block_lt_of_cell? _ _ c0w2) (not_nil _)
  have c1w3 := cell_kept c1w2 hmw3 (World.block_lt_of_cell? _ _ c1w2) (not_nil _)
  have HZw3 := Lib.hid (hmw3.keep HZw2.out)
  have HMw3 := Lib.hid (HMw2.out.thenNil hmw3)
  clear c0w2 c1w2 hmw3

  have HTC := Lib.hid (numTick start w3)
  by_cases hts : tickN start
  case neg =>
    rw [decide_eq_false hts] at HTC
    have HN := Lib.hid (HMAY.out (fun h => hts h.2.2.2.2.2.1))
    clear hts
    go_wp2_with fail
    refine HTC.out.mono ?_
    rintro e w' ⟨rfl, rfl⟩
    have HE := Lib.hid (HZERO.out w3 1 HMw3.out HZw3.out (HN.out))
    go_wp2_with (refine wpList_store_row rfl _ _ _ rfl G #[.int .i64 0, .slice none 0 0, .slice none 0 0, .string ⟨#[]⟩, .int .i64 0, .int .i64 0, .int .i64 0, .slice none 0 0] rfl rfl 25 _ HZw3.out info_plan rfl (by simp [Value.oneCell']) ?_)
    refine bodyPost_ret (results_cell_row2 rfl _ _ G 25 #[.int .i64 0, .slice none 0 0, .slice none 0 0, .string ⟨#[]⟩, .int .i64 0, .int .i64 0, .int .i64 0, .slice none 0 0] (0, 0) rfl (setRow_heap w3 G _ #[.int .i64 0, .slice none 0 0, .slice none 0 0, .string ⟨#[]⟩, .int .i64 0, .int .i64 0, .int .i64 0, .slice none 0 0] _ _ HZw3.out) Tryz.underlying25 info_plan) rfl ?_
    exact HE.out

  rw [decide_eq_true hts] at HTC
  have HTS := Lib.hid hts
  clear hts
  go_wp2_with fail
  refine HTC.out.mono ?_
  rintro e w' ⟨rfl, rfl⟩
  have HEC := Lib.hid (planTimes eps wait w3)
  by_cases htm : timesN eps wait
  case neg =>
    rw [decide_eq_false htm] at HEC
    have HN := Lib.hid (HMAY.out (fun h => htm h.2.2.2.2.2.2))
    clear htm
    go_wp2_with fail
    refine HEC.out.mono ?_
    rintro e w' ⟨rfl, rfl⟩
    have HE := Lib.hid (HZERO.out w3 1 HMw3.out HZw3.out (HN.out))
    go_wp2_with (refine wpList_store_row rfl _ _ _ rfl G #[.int .i64 0, .slice none 0 0, .slice none 0 0, .string ⟨#[]⟩, .int .i64 0, .int .i64 0, .int .i64 0, .slice none 0 0] rfl rfl 25 _ HZw3.out info_plan rfl (by simp [Value.oneCell']) ?_)
    refine bodyPost_ret (results_cell_row2 rfl _ _ G 25 #[.int .i64 0, .slice none 0 0, .slice none 0 0, .string ⟨#[]⟩, .int .i64 0, .int .i64 0, .int .i64 0, .slice none 0 0] (0, 0) rfl (setRow_heap w3 G _ #[.int .i64 0, .slice none 0 0, .slice none 0 0, .string ⟨#[]⟩, .int .i64 0, .int .i64 0, .int .i64 0, .slice none 0 0] _ _ HZw3.out) Tryz.underlying25 info_plan) rfl ?_
    exact HE.out

  rw [decide_eq_true htm] at HEC
  have HTM := Lib.hid htm
  clear htm
  have HOK : Hid (makeN deal ps ls hash start eps wait = match ladderN nl start eps wait with | none => (Pl.zero, 1) | some l => if hash.length = 32 then (⟨deal, ps, ls, hash, start, eps, wait, l⟩, 0) else (Pl.zero, 2)) := Lib.hid (by
    unfold makeN
    rw [if_pos ⟨by omega, by omega, HPP.out, by rw [HPL.out, HLL.out], HAL.out, HTS.out, HTM.out⟩, HPL.out])
  go_wp2_with fail
  refine HEC.out.mono ?_
  rintro e w' ⟨rfl, rfl⟩
  have HLC := Lib.hid (planLadder nl start eps wait w3 (by omega) h2n.2 HTM.out HTS.out)
  go_wp2_with fail
  refine (HLC.out).mono ?_
  rintro e w4 ⟨hlad, hmw4⟩
  have c0w4 := cell_kept c0w3 hmw4 (World.block_lt_of_cell? _ _ c0w3) (not_nil _)
  have c1w4 := cell_kept c1w3 hmw4 (World.block_lt_of_cell? _ _ c1w3) (not_nil _)
  have HZw4 := Lib.hid (hmw4.keep HZw3.out)
  have HMw4 := Lib.hid (HMw3.out.thenNil hmw4)
  clear c0w3 c1w3 hmw4

  rcases hlad with ⟨hno, rfl⟩ | ⟨dl, pd, cd, hdl, hdll, rfl, hvd⟩
  · have HN : Hid (makeN deal ps ls hash start eps wait = (Pl.zero, 1)) := Lib.hid (by rw [HOK.out, hno])
    clear hno
    have HE := Lib.hid (HZERO.out w4 1 HMw4.out HZw4.out (HN.out))
    go_wp2_with (refine wpList_store_row rfl _ _ _ rfl G #[.int .i64 0, .slice none 0 0, .slice none 0 0, .string ⟨#[]⟩, .int .i64 0, .int .i64 0, .int .i64 0, .slice none 0 0] rfl rfl 25 _ HZw4.out info_plan rfl (by simp [Value.oneCell']) ?_)
    refine bodyPost_ret (results_cell_row2 rfl _ _ G 25 #[.int .i64 0, .slice none 0 0, .slice none 0 0, .string ⟨#[]⟩, .int .i64 0, .int .i64 0, .int .i64 0, .slice none 0 0] (0, 0) rfl (setRow_heap w4 G _ #[.int .i64 0, .slice none 0 0, .slice none 0 0, .string ⟨#[]⟩, .int .i64 0, .int .i64 0, .int .i64 0, .slice none 0 0] _ _ HZw4.out) Tryz.underlying25 info_plan) rfl ?_
    exact HE.out

  have HVD4 := Lib.hid hvd
  have HDL := Lib.hid hdl
  have HDLL := Lib.hid hdll
  clear hvd hdl hdll
  by_cases hhz : hash.length = 32
  case neg =>
    have HN : Hid (makeN deal ps ls hash start eps wait = (Pl.zero, 2)) := Lib.hid (by rw [HOK.out, HDL.out]; exact if_neg hhz)
    have hbh : ((hash.length : Int) != 32) = true := by rw [bne_iff_ne]; omega
    have HE := Lib.hid (HZERO.out w4 2 HMw4.out HZw4.out (HN.out))
    go_wp2_with (refine wpList_store_row rfl _ _ _ rfl G #[.int .i64 0, .slice none 0 0, .slice none 0 0, .string ⟨#[]⟩, .int .i64 0, .int .i64 0, .int .i64 0, .slice none 0 0] rfl rfl 25 _ HZw4.out info_plan rfl (by simp [Value.oneCell']) ?_)
    refine bodyPost_ret (results_cell_row2 rfl _ _ G 25 #[.int .i64 0, .slice none 0 0, .slice none 0 0, .string ⟨#[]⟩, .int .i64 0, .int .i64 0, .int .i64 0, .slice none 0 0] (0, 0) rfl (setRow_heap w4 G _ #[.int .i64 0, .slice none 0 0, .slice none 0 0, .string ⟨#[]⟩, .int .i64 0, .int .i64 0, .int .i64 0, .slice none 0 0] _ _ HZw4.out) Tryz.underlying25 info_plan) rfl ?_
    exact HE.out

  have hbh : ((hash.length : Int) != 32) = false := by rw [hhz]; rfl
  have HN : Hid (makeN deal ps ls hash start eps wait = (⟨deal, ps, ls, hash, start, eps, wait, dl⟩, 0)) := Lib.hid (by rw [HOK.out, HDL.out]; exact if_pos hhz)
  clear hhz
  have HVD := HVD4
  have hw45 : True := trivial
  obtain ⟨w5, hw5⟩ : ∃ w5, w5 = w4 := ⟨_, rfl⟩
  have c0w5 := c0w4
  have c1w5 := c1w4
  have HZw5 := HZw4
  have HMw5 := HMw4
  rw [← hw5] at c0w5 c1w5 HZw5 HMw5 HVD ⊢
  clear hw5 c0w4 c1w4 HZw4 HMw4 HVD4 hw45
  have hrl5 := World.block_lt_of_cell? _ _ c0w5
  have HCLI : Hid (∀ W, Mod nil w5 W → Calls Tryz.prog 101 #[.slice pp nl cp] W fun e w' => ∃ p c, e = .returned (.slice p nl c) ∧ Hid (IsVec (fun k => w5.heap.size ≤ k) w' 3 1 (.slice p nl c) nl (ps.map (.int .i64))) ∧ Mod nil w5 w') := Lib.hid (fun W m => by
    refine (cloneInts T _ ps W (HP.out.modNil (HMw5.out.thenNil m)) (by rw [HPL.out]; omega)).mono ?_
    rintro e w' ⟨v, rfl, hv, hm⟩
    rw [HPL.out] at hv
    obtain ⟨p, c, rfl⟩ := hv.form
    exact ⟨p, c, rfl, Lib.hid (hv.mono (fun k _ h => Nat.le_trans m.size h)), m.thenNil hm⟩)
  have HCPL : Hid (∀ W, Mod nil w5 W → Calls Tryz.prog 102 #[.slice pl nl cl] W fun e w' => ∃ p c, e = .returned (.slice p nl c) ∧ Hid (IsLegsV (fun k => w5.heap.size ≤ k) w' (.slice p nl c) nl ls) ∧ Mod nil W w') := Lib.hid (fun W m => by
    refine (planCopied T pl nl cl ls W (HL.out.modNil (HMw5.out.thenNil m)) hnl HLS.out).mono ?_
    rintro e w' ⟨p, c, rfl, hv, hm⟩
    exact ⟨p, c, rfl, Lib.hid (hv.mono (fun k _ h => Nat.le_trans m.size h)), hm⟩)
  have HGOOD : Hid (∀ p6 c6 p7 c7 (W : World), W.heap[G]? = some (.cells #[.int .i64 0, .slice none 0 0, .slice none 0 0, .string ⟨#[]⟩, .int .i64 0, .int .i64 0, .int .i64 0, .slice none 0 0] 25 (0, 0)) → Mod nil w W → IsVec (fun k => w5.heap.size ≤ k) W 3 1 (.slice p6 nl c6) nl (ps.map (.int .i64)) → IsLegsV (fun k => w5.heap.size ≤ k) W (.slice p7 nl c7) nl ls → IsVec (fun k => w3.heap.size ≤ k) W 3 1 (.slice pd nl cd) nl (dl.map (.int .i64)) → Post (.returned (.tuple #[.agg #[.int .i64 deal, .slice p6 nl c6, .slice p7 nl c7, .string ⟨hash.toArray⟩, .int .i64 start, .int .i64 eps, .int .i64 wait, .slice pd nl cd], .int .i64 0])) (W.setRow G #[.int .i64 deal, .slice p6 nl c6, .slice p7 nl c7, .string ⟨hash.toArray⟩, .int .i64 start, .int .i64 eps, .int .i64 wait, .slice pd nl cd])) := Lib.hid (fun p6 c6 p7 c7 W hz hm h6 h7 hd => by
    have mr : Mod (· = G) W (W.setRow G #[.int .i64 deal, .slice p6 nl c6, .slice p7 nl c7, .string ⟨hash.toArray⟩, .int .i64 start, .int .i64 eps, .int .i64 wait, .slice pd nl cd]) := (Mod.refl _ _).rowSet G _ (fun _ => rfl)
    have hG5 : G < w5.heap.size := heap_lt HZw5.out
    have hG3 : G < w3.heap.size := heap_lt HZw3.out
    refine HPOST.out _ _ ⟨_, by rw [HN.out], ?_, hm.trans mr (fun k hk e => by have := HGE.out; omega)⟩
    rw [HN.out]
    refine ⟨p6, c6, p7, c7, pd, cd, ?_, ?_, ?_, ?_⟩
    · simp only [HPL.out, HLL.out, HDLL.out]
    · simp only [HPL.out]
      exact (h6.mod mr (fun k _ h e => by omega)).row.mono (fun k _ h => by have := HMw5.out.size; omega)
    · simp only [HLL.out]
      exact (h7.mod mr (fun k _ h e => by omega)).legs.mono (fun k _ h => by have := HMw5.out.size; omega)
    · simp only [HDLL.out]
      exact (hd.mod mr (fun k _ h e => by omega)).row.mono (fun k _ h => by have := HMw3.out.size; omega))
  go_upto_region 8 with (fail)
  refine region_till (fun w' => w'.cell? ⟨r, 0, none⟩ = some (.slice pp nl cp) ∧ w'.cell? ⟨r, 1, none⟩ = some (.slice pl nl cl)) 13 (by kernel_rfl) ?_
  refine till_free (i := 0) (v := ?_) rfl (by kernel_rfl) (by kernel_rfl) (by kernel_rfl) (by kernel_rfl) (fun _ _ _ h => h) (Or.inl ⟨by kernel_rfl, ?_⟩) (fun _ => ⟨c0w5, c1w5⟩) ?_
  rotate_left
  · intro w _; (first | (go_simp; done) | (go_simp; with_reducible rfl))
  (try simp only [Act.put]); (try simp only [List.setIfInBounds_toArray])
  refine till_free (i := 1) (v := ?_) rfl (by kernel_rfl) (by kernel_rfl) (by kernel_rfl) (by kernel_rfl) (fun _ _ _ h => h) (Or.inl ⟨by kernel_rfl, ?_⟩) (fun _ => ⟨c0w5, c1w5⟩) ?_
  rotate_left
  · intro w _; (first | (go_simp; done) | (go_simp; with_reducible rfl))
  (try simp only [Act.put]); (try simp only [List.setIfInBounds_toArray])
  refine till_free (i := 4) (v := ?_) rfl (by kernel_rfl) (by kernel_rfl) (by kernel_rfl) (by kernel_rfl) (fun _ _ _ h => h) (Or.inl ⟨by kernel_rfl, ?_⟩) (fun _ => ⟨c0w5, c1w5⟩) ?_
  rotate_left
  · intro w _; (first | (go_simp; done) | (go_simp; with_reducible rfl))
  (try simp only [Act.put]); (try simp only [List.setIfInBounds_toArray])
  refine till_free (i := 7) (v := ?_) rfl (by kernel_rfl) (by kernel_rfl) (by kernel_rfl) (by kernel_rfl) (fun _ _ _ h => h) (Or.inl ⟨by kernel_rfl, ?_⟩) (fun _ => ⟨c0w5, c1w5⟩) ?_
  rotate_left
  · intro w _; (first | (go_simp; done) | (go_simp; with_reducible rfl))
  (try simp only [Act.put]); (try simp only [List.setIfInBounds_toArray])
  refine till_free (i := 8) (v := ?_) rfl (by kernel_rfl) (by kernel_rfl) (by kernel_rfl) (by kernel_rfl) (fun _ _ _ h => h) (Or.inl ⟨by kernel_rfl, ?_⟩) (fun _ => ⟨c0w5, c1w5⟩) ?_
  rotate_left
  · intro w _; (first | (go_simp; done) | (go_simp; with_reducible rfl))
  (try simp only [Act.put]); (try simp only [List.setIfInBounds_toArray])
  refine till_free (i := 9) (v := ?_) rfl (by kernel_rfl) (by kernel_rfl) (by kernel_rfl) (by kernel_rfl) (fun _ _ _ h => h) (Or.inl ⟨by kernel_rfl, ?_⟩) (fun _ => ⟨c0w5, c1w5⟩) ?_
  rotate_left
  · intro w _; (first | (go_simp; done) | (go_simp; with_reducible rfl))
  (try simp only [Act.put]); (try simp only [List.setIfInBounds_toArray])
  refine till_free (i := 10) (v := ?_) rfl (by kernel_rfl) (by kernel_rfl) (by kernel_rfl) (by kernel_rfl) (fun _ _ _ h => h) (Or.inl ⟨by kernel_rfl, ?_⟩) (fun _ => ⟨c0w5, c1w5⟩) ?_
  rotate_left
  · intro w _; (first | (go_simp; done) | (go_simp; with_reducible rfl))
  (try simp only [Act.put]); (try simp only [List.setIfInBounds_toArray])
  refine till_free (i := 11) (v := ?_) rfl (by kernel_rfl) (by kernel_rfl) (by kernel_rfl) (by kernel_rfl) (fun _ _ _ h => h) (Or.inl ⟨by kernel_rfl, ?_⟩) (fun _ => ⟨c0w5, c1w5⟩) ?_
  rotate_left
  · intro w _; (first | (go_simp; done) | (go_simp; with_reducible rfl))
  (try simp only [Act.put]); (try simp only [List.setIfInBounds_toArray])
  refine till_take (i := 2) (v := ?_) rfl (by kernel_rfl) (by kernel_rfl) (by kernel_rfl) (by kernel_rfl) (by kernel_rfl) (by kernel_rfl) (fun _ _ _ h => h) (Or.inl ⟨by kernel_rfl, ?_⟩) (⟨c0w5, c1w5⟩) ?_
  rotate_left
  · intro w hSw; (try dsimp only at hSw); (first | (go_simp; done) | (go_simp; with_reducible rfl))
  (try simp only [Act.put]); (try simp only [List.setIfInBounds_toArray])
  refine till_take (i := 5) (v := ?_) rfl (by kernel_rfl) (by kernel_rfl) (by kernel_rfl) (by kernel_rfl) (by kernel_rfl) (by kernel_rfl) (fun _ _ _ h => h) (Or.inl ⟨by kernel_rfl, ?_⟩) (⟨c0w5, c1w5⟩) ?_
  rotate_left
  · intro w hSw; (try dsimp only at hSw); (first | (go_simp; done) | (go_simp; with_reducible rfl))
  (try simp only [Act.put]); (try simp only [List.setIfInBounds_toArray])
  refine till_ready (rs := [3]) (by kernel_rfl) (by simp) ?_
  refine till_cons (i := 3) rfl (fun K hK => ?_) till_nil
  (try dsimp (config := { proj := false }) only [List.getElem_toArray, List.getElem_cons_succ, List.getElem_cons_zero])
  go_simp
  refine (HCLI.out _ ?_).mono ?_
  · (repeat (first | exact Mod.refl _ _ | refine Mod.drew ?_))
  rintro e w6 ⟨p6, c6, rfl, HV6, hm6⟩
  have c0w6 := cell_kept c0w5 hm6 hrl5 (not_nil _)
  have c1w6 := cell_kept c1w5 hm6 hrl5 (not_nil _)
  refine hK.out _ _ (fun _ => ⟨c0w6, c1w6⟩) ?_
  clear hK K
  (try simp only [Act.put, List.setIfInBounds_toArray, List.set_cons_zero, List.set_cons_succ])
  refine till_ready (rs := [6]) (by kernel_rfl) (by simp) ?_
  refine till_cons (i := 6) rfl (fun K hK => ?_) till_nil
  (try dsimp (config := { proj := false }) only [List.getElem_toArray, List.getElem_cons_succ, List.getElem_cons_zero])
  go_simp
  refine (HCPL.out _ hm6).mono ?_
  rintro e w7 ⟨p7, c7, rfl, HV7, hm7⟩
  have hrl6 := World.block_lt_of_cell? _ _ c0w6
  have c0w7 := cell_kept c0w6 hm7 hrl6 (not_nil _)
  have c1w7 := cell_kept c1w6 hm7 hrl6 (not_nil _)
  have HZ7 := Lib.hid (hm7.keep (hm6.keep HZw5.out))
  have HM7 := Lib.hid ((HMw5.out.thenNil hm6).thenNil hm7)
  have HFIN : Hid (Post (.returned (.tuple #[.agg #[.int .i64 deal, .slice p6 nl c6, .slice p7 nl c7, .string ⟨hash.toArray⟩, .int .i64 start, .int .i64 eps, .int .i64 wait, .slice pd nl cd], .int .i64 0])) (w7.setRow G #[.int .i64 deal, .slice p6 nl c6, .slice p7 nl c7, .string ⟨hash.toArray⟩, .int .i64 start, .int .i64 eps, .int .i64 wait, .slice pd nl cd])) := Lib.hid (HGOOD.out p6 c6 p7 c7 w7 HZ7.out HM7.out (HV6.out.modNil hm7) HV7.out ((HVD.out.modNil hm6).modNil hm7))
  refine hK.out _ _ (fun _ => ⟨c0w7, c1w7⟩) ?_
  clear hK K
  (try simp only [Act.put, List.setIfInBounds_toArray, List.set_cons_zero, List.set_cons_succ])
  refine till_ready (rs := [12]) (by kernel_rfl) (by simp) ?_
  refine till_cons (i := 12) rfl (fun K hK => ?_) till_nil
  (try dsimp (config := { proj := false }) only [List.getElem_toArray, List.getElem_cons_succ, List.getElem_cons_zero])
  go_simp
  refine hK.out _ _ (fun _ => ⟨c0w7, c1w7⟩) ?_
  clear hK K
  (try simp only [Act.put, List.setIfInBounds_toArray, List.set_cons_zero, List.set_cons_succ])
  refine till_ready (rs := [13]) (by kernel_rfl) (by simp) ?_
  refine till_cons (i := 13) rfl (fun K hK => ?_) till_nil
  (try dsimp (config := { proj := false }) only [List.getElem_toArray, List.getElem_cons_succ, List.getElem_cons_zero])
  refine step_store_row rfl _ _ _ rfl G #[.int .i64 deal, .slice p6 nl c6, .slice p7 nl c7, .string ⟨hash.toArray⟩, .int .i64 start, .int .i64 eps, .int .i64 wait, .slice pd nl cd] rfl rfl 25 _ HZ7.out info_plan rfl (by simp [Value.oneCell']) ?_
  refine hK.out _ _ (fun h => (by simp at h)) ?_
  clear hK K
  (try simp only [Act.put, List.setIfInBounds_toArray, List.set_cons_zero, List.set_cons_succ])
  refine till_ready (rs := [14]) (by kernel_rfl) (by simp) ?_
  refine till_cons (i := 14) rfl (fun K hK => ?_) till_nil
  (try dsimp (config := { proj := false }) only [List.getElem_toArray, List.getElem_cons_succ, List.getElem_cons_zero])
  go_simp
  refine hK.out _ _ (fun h => (by simp at h)) ?_
  clear hK K
  (try simp only [Act.put, List.setIfInBounds_toArray, List.set_cons_zero, List.set_cons_succ])
  refine till_done (by kernel_rfl) ?_ _
  go_wp2_with fail
  refine bodyPost_ret (results_cell_row2 rfl _ _ G 25 #[.int .i64 deal, .slice p6 nl c6, .slice p7 nl c7, .string ⟨hash.toArray⟩, .int .i64 start, .int .i64 eps, .int .i64 wait, .slice pd nl cd] (0, 0) rfl (setRow_heap w7 G _ #[.int .i64 deal, .slice p6 nl c6, .slice p7 nl c7, .string ⟨hash.toArray⟩, .int .i64 start, .int .i64 eps, .int .i64 wait, .slice pd nl cd] _ _ HZ7.out) Tryz.underlying25 info_plan) rfl ?_
  exact HFIN.out

end Go.Proofs.YtdfpmlfdmhlhcaaGreat
