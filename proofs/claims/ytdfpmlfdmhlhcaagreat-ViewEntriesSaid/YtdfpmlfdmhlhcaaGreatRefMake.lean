/- cflref18.Make. (Printed by wip/tools/gen_refmake.py.) -/
import Derived.Test.YtdfpmlfdmhlhcaaGreatRefLeg
import Derived.Test.YtdfpmlfdmhlhcaaGreatSame
import Derived.Test.YtdfpmlfdmhlhcaaGreatCut
namespace Go.Proofs.YtdfpmlfdmhlhcaaGreat
open Go.RowKit

def PlCap (v : Value) (P : Pl) : Prop := ∃ d p1 c1 p2 c2 h s e t p7 c7, v = .agg #[d, .slice p1 P.ps.length c1, .slice p2 P.ls.length c2, h, s, e, t, .slice p7 P.dl.length c7] ∧ P.ps.length ≤ c1
theorem info_int1 : (Tryz.prog.info? 3).map (·.size) = some 1 := by kernel_rfl
theorem slice_frontI (p : Option Addr) (len cap h : Nat) (hh : h ≤ cap) (W : World) : (Instr.slice 22 (.slice p len cap) none (some (.int .i64 (h : Int))) none).run Tryz.prog W = .ok (.slice p h cap) W := by
  obtain ⟨i0, hi, hz0, hz1, hz2⟩ := info_parts info_int
  have he : Tryz.prog.elem 22 = 3 := by simp [Program.elem, Tryz.underlying22]
  have hu : Tryz.prog.underlying 22 = some (.slice (Tryz.prog.elem 22)) := by rw [he]; exact Tryz.underlying22
  rw [run_slice_h W _ p len cap hu .i64 h (by omega) (by omega)]
  have hs : (sizeOf (Tryz.prog.elem 22)).run Tryz.prog W = .ok 1 W := by
    rw [he]
    simp [sizeOf, typeInfo, hi, hz1]
  (try rw [hs])
  have hp : p.map (fun x => x.add 0) = p := by cases p with
    | none => rfl
    | some a => cases a; simp [Addr.add]
  simp [sliced, hp]
set_option maxRecDepth 100000 in
set_option maxHeartbeats 8000000 in
theorem refMake (T : Nat → Prop) (deal start eps wait : Int) (pp pl : Option Addr) (np cp nl cl : Nat) (ps : List Int) (ls : List (List It)) (hash : List UInt8) (w : World)
    (hp : IsRow (· < w.heap.size) w (.slice pp np cp) (ps.map (.int .i64))) (hl : IsLegs (· < w.heap.size) w (.slice pl nl cl) ls) (hcp : np ≤ cp) (hnp : np ≤ 1000000) (hnl : nl ≤ 1000000) (hlx : ∀ l ∈ ls, l.length ≤ 1000000) (hhs : hash.length ≤ 1000000000) :
    Calls Tryz.prog 109 #[.int .i64 deal, .agg #[.slice pp np cp, .slice pl nl cl], .string ⟨hash.toArray⟩, .int .i64 start, .int .i64 eps, .int .i64 wait] w fun e w' => ∃ v, e = .returned (.tuple #[v, .int .i64 (makeN deal ps ls hash start eps wait).2]) ∧ IsPl (fun k => w.heap.size ≤ k) w' v (makeN deal ps ls hash start eps wait).1 ∧ PlCap v (makeN deal ps ls hash start eps wait).1 ∧ Mod nil w w' := by
  refine (?_ : ∀ Post : Ending → World → Prop, Hid (∀ e w', (∃ v, e = .returned (.tuple #[v, .int .i64 (makeN deal ps ls hash start eps wait).2]) ∧ IsPl (fun k => w.heap.size ≤ k) w' v (makeN deal ps ls hash start eps wait).1 ∧ PlCap v (makeN deal ps ls hash start eps wait).1 ∧ Mod nil w w') → Post e w') → Calls Tryz.prog 109 #[.int .i64 deal, .agg #[.slice pp np cp, .slice pl nl cl], .string ⟨hash.toArray⟩, .int .i64 start, .int .i64 eps, .int .i64 wait] w Post) _ (Lib.hid (fun _ _ h => h))
  intro Post HPOST
  obtain ⟨r, hr⟩ : ∃ r, w.heap.size = r := ⟨_, rfl⟩
  obtain ⟨G, hG⟩ : ∃ G, r + 1 = G := ⟨_, rfl⟩
  have hpl : ps.length = np := by obtain ⟨_, _, h, _⟩ := hp; simp only [Value.slice.injEq, List.length_map] at h; exact h.2.1.symm
  have hll : ls.length = nl := by obtain ⟨_, _, h⟩ := hl.form; simp only [Value.slice.injEq] at h; exact h.2.1.symm
  obtain ⟨nh, hnh⟩ : ∃ n, hash.length = n := ⟨_, rfl⟩
  have hzl : (⟨hash.toArray⟩ : ByteArray).size = nh := by rw [← hnh]; rfl
  have hzl2 : hash.toArray.size = nh := by rw [← hnh]; rfl
  rw [hnh] at hhs
  have HP := Lib.hid hp
  have HL0 := Lib.hid hl
  have HPL := Lib.hid hpl
  have HLL := Lib.hid hll
  have HNH := Lib.hid hnh
  have HLX := Lib.hid hlx
  clear hp hl hpl hll hnh hlx
  go_enter Tryz.func109, Tryz.ntmps109
  go_upto_region 1 with (fail)
  (try rw [hr])
  (try rw [hG])
  generalize hw1 : World.alloc (World.alloc w _) _ = w1
  have hm1 : Mod nil w w1 := by rw [← hw1]; exact ((Mod.refl _ _).alloc _).alloc _
  have hbr : w1.heap[r]? = some (.cells #[.slice pp np cp, .slice pl nl cl] 73 (0, 0)) := by rw [← hw1]; exact heap_alloc_old (by rw [← hr]; exact heap_alloc_new _ _)
  have hbG : w1.heap[G]? = some (.cells #[.int .i64 0, .slice none 0 0, .slice none 0 0, .string ⟨#[]⟩, .int .i64 0, .int .i64 0, .int .i64 0, .slice none 0 0] 25 (0, 0)) := by
    rw [← hw1]
    have := heap_alloc_new (w.alloc (.cells #[.slice pp np cp, .slice pl nl cl] 73)) (.cells #[.int .i64 0, .slice none 0 0, .slice none 0 0, .string ⟨#[]⟩, .int .i64 0, .int .i64 0, .int .i64 0, .slice none 0 0] 25)
    rw [World.size_alloc, hr, hG] at this
    exact this
  have k0 := cell_of hbr 0
  have k1 := cell_of hbr 1
  simp only [List.getElem?_toArray, List.getElem?_cons_zero, List.getElem?_cons_succ] at k0 k1
  have hrl := heap_lt hbr
  have hG1 := heap_lt hbG
  have HZ1 := Lib.hid hbG
  have HM1 := Lib.hid hm1
  have hrG : r < G := by omega
  have HGE : Hid (w.heap.size ≤ G ∧ w.heap.size ≤ r) := Lib.hid (by omega)
  have HR0 : Hid (∀ W, Mod (fun k => G < k) w1 W → W.cell? ⟨r, 0, none⟩ = some (.slice pp np cp)) := Lib.hid (fun W m => cell_kept k0 m hrl (fun h => by have h : G < r := h; omega))
  have HR1 : Hid (∀ W, Mod (fun k => G < k) w1 W → W.cell? ⟨r, 1, none⟩ = some (.slice pl nl cl)) := Lib.hid (fun W m => cell_kept k1 m hrl (fun h => by have h : G < r := h; omega))
  have HN0 : Hid (∀ W, Mod (fun k => G < k) w1 W → Mod nil w W) := Lib.hid (fun W m => HM1.out.new m (fun k h => by have := HGE.out; have h : G < k := h; omega))
  have HFAIL : Hid (∀ er, makeN deal ps ls hash start eps wait = (Pl.zero, er) → ∀ W, Mod (fun k => G < k) w1 W → W.heap[G]? = some (.cells #[.int .i64 0, .slice none 0 0, .slice none 0 0, .string ⟨#[]⟩, .int .i64 0, .int .i64 0, .int .i64 0, .slice none 0 0] 25 (0, 0)) ∧ Post (.returned (.tuple #[.agg #[.int .i64 0, .slice none 0 0, .slice none 0 0, .string ⟨#[]⟩, .int .i64 0, .int .i64 0, .int .i64 0, .slice none 0 0], .int .i64 er])) (W.setRow G #[.int .i64 0, .slice none 0 0, .slice none 0 0, .string ⟨#[]⟩, .int .i64 0, .int .i64 0, .int .i64 0, .slice none 0 0])) := Lib.hid (fun er he W hm => ⟨(hm.block G hG1 (fun h => Nat.lt_irrefl _ h)).trans HZ1.out, HPOST.out _ _ ⟨_, by rw [he], by rw [he]; exact IsPl.zero _ _, by rw [he]; exact ⟨_, _, 0, _, _, _, _, _, _, _, _, rfl, Nat.zero_le _⟩, (HN0.out W hm).trans ((Mod.refl (· = G) W).rowSet G _ (fun _ => rfl)) (fun k hk e => by have := HGE.out; have e : k = G := e; omega)⟩⟩)
  have HX : Hid (Mod (fun k => G < k) w1 w1) := Lib.hid (Mod.refl _ _)
  clear hw1 hm1 hbr hbG hr hG
  obtain ⟨g, hg⟩ : ∃ g, decide ((0 ≤ deal ∧ deal ≤ 65535) ∧ (2 ≤ (np : Int) ∧ (np : Int) ≤ 16) ∧ nl = np ∧ tickN start ∧ timesN eps wait) = g := ⟨_, rfl⟩
  have HGT := Lib.hid hg
  clear hg
  go_upto_region 2 with (fail)
  go_cut [15, 23, 24, 25, 26, 27, 28, 29, 30, 31, 32, 33, 34, 35, 36, 37, 38, 39, 40, 41, 42, 43, 44, 45] from 148 (fun s _ _ _ _ _ _ _ _ _ _ _ _ _ _ _ _ _ _ _ _ _ _ _ wx => w1 = wx ∧ s = .bool g)
  case first =>
    by_cases o1 : 0 ≤ deal ∧ deal ≤ 65535
    case neg =>
      obtain rfl : false = g := by rw [← HGT.out]; exact (decide_eq_false (fun h => o1 (h.1))).symm
      have h1 := refIn deal 0 65535 w1
      rw [decide_eq_false o1] at h1
      have HI1 := Lib.hid h1
      clear h1
      clear o1
      go_wp2_with fail
      refine HI1.out.mono ?_
      rintro e w' ⟨rfl, rfl⟩
      go_wp2_with fail
      go_meet
      exact ⟨rfl, rfl⟩
    have h1 := refIn deal 0 65535 w1
    rw [decide_eq_true o1] at h1
    have HI1 := Lib.hid h1
    clear h1
    by_cases o2 : 2 ≤ (np : Int) ∧ (np : Int) ≤ 16
    case neg =>
      obtain rfl : false = g := by rw [← HGT.out]; exact (decide_eq_false (fun h => o2 (h.2.1))).symm
      have h2 := refIn (np : Int) 2 16 w1
      rw [decide_eq_false o2] at h2
      have HI2 := Lib.hid h2
      clear h2
      clear o2 o1
      go_wp2_with fail
      refine HI1.out.mono ?_
      rintro e w' ⟨rfl, rfl⟩
      go_wp2_with fail
      refine HI2.out.mono ?_
      rintro e w' ⟨rfl, rfl⟩
      go_wp2_with fail
      go_meet
      exact ⟨rfl, rfl⟩
    have h2 := refIn (np : Int) 2 16 w1
    rw [decide_eq_true o2] at h2
    have HI2 := Lib.hid h2
    clear h2
    by_cases o3 : nl = np
    case neg =>
      obtain rfl : false = g := by rw [← HGT.out]; exact (decide_eq_false (fun h => o3 (h.2.2.1))).symm
      have hb3 : ((nl : Int) == (np : Int)) = false := by simp; omega
      clear o3 o1 o2
      go_wp2_with fail
      refine HI1.out.mono ?_
      rintro e w' ⟨rfl, rfl⟩
      go_wp2_with fail
      refine HI2.out.mono ?_
      rintro e w' ⟨rfl, rfl⟩
      go_wp2_with fail
      go_meet
      exact ⟨rfl, rfl⟩
    have hb3 : ((nl : Int) == (np : Int)) = true := by simp; omega
    by_cases o4 : tickN start
    case neg =>
      obtain rfl : false = g := by rw [← HGT.out]; exact (decide_eq_false (fun h => o4 (h.2.2.2.1))).symm
      have h4 := refTick start w1
      rw [decide_eq_false o4] at h4
      have HI4 := Lib.hid h4
      clear h4
      clear o4 o1 o2 o3
      go_wp2_with fail
      refine HI1.out.mono ?_
      rintro e w' ⟨rfl, rfl⟩
      go_wp2_with fail
      refine HI2.out.mono ?_
      rintro e w' ⟨rfl, rfl⟩
      go_wp2_with fail
      refine HI4.out.mono ?_
      rintro e w' ⟨rfl, rfl⟩
      go_wp2_with fail
      go_meet
      exact ⟨rfl, rfl⟩
    have h4 := refTick start w1
    rw [decide_eq_true o4] at h4
    have HI4 := Lib.hid h4
    clear h4
    have h5 := refGap eps wait w1
    by_cases o5 : timesN eps wait
    case neg =>
      obtain rfl : false = g := by rw [← HGT.out]; exact (decide_eq_false (fun h => o5 (h.2.2.2.2))).symm
      rw [show gapN eps wait = 0 from if_neg o5] at h5
      have HI5 := Lib.hid h5
      clear h5
      clear o5 o1 o2 o3 o4
      go_wp2_with fail
      refine HI1.out.mono ?_
      rintro e w' ⟨rfl, rfl⟩
      go_wp2_with fail
      refine HI2.out.mono ?_
      rintro e w' ⟨rfl, rfl⟩
      go_wp2_with fail
      refine HI4.out.mono ?_
      rintro e w' ⟨rfl, rfl⟩
      go_wp2_with fail
      refine HI5.out.mono ?_
      rintro e w' ⟨rfl, rfl⟩
      go_wp2_with fail
      go_meet
      exact ⟨rfl, rfl⟩
    obtain rfl : true = g := by rw [← HGT.out]; exact (decide_eq_true ⟨o1, o2, o3, o4, o5⟩).symm
    have hgp : 0 < gapN eps wait := by
      rw [show gapN eps wait = 2 * eps + 2 * wait + 2 from if_pos o5]
      obtain ⟨q1, q2, q3, q4⟩ := o5
      omega
    obtain ⟨gg, hgg⟩ : ∃ x, gapN eps wait = x := ⟨_, rfl⟩
    rw [hgg] at h5 hgp
    have hgd : decide (0 < gg) = true := decide_eq_true hgp
    have HI5 := Lib.hid h5
    clear h5 hgg o1 o2 o3 o4 o5
    go_wp2_with fail
    refine HI1.out.mono ?_
    rintro e w' ⟨rfl, rfl⟩
    go_wp2_with fail
    refine HI2.out.mono ?_
    rintro e w' ⟨rfl, rfl⟩
    go_wp2_with fail
    refine HI4.out.mono ?_
    rintro e w' ⟨rfl, rfl⟩
    go_wp2_with fail
    refine HI5.out.mono ?_
    rintro e w' ⟨rfl, rfl⟩
    go_wp2_with fail
    go_meet
    exact ⟨rfl, rfl⟩
  case rest =>
  obtain ⟨rfl, rfl⟩ := hcut
  clear k0 k1
  go_wp2_with fail
  go_loopw [15, 16] (fun v15 v16 wr => ∃ (i : Nat) (b : Bool), v15 = .bool b ∧ v16 = .int .i64 i ∧ i ≤ np ∧ Hid (b = true → ((0 ≤ deal ∧ deal ≤ 65535) ∧ (2 ≤ (np : Int) ∧ (np : Int) ≤ 16) ∧ nl = np ∧ tickN start ∧ timesN eps wait) ∧ (∀ x ∈ ps.take i, 0 ≤ x ∧ x < 16) ∧ (ps.take i).Nodup ∧ (ls.take i).all legB = true) ∧ Hid (b = false → ¬ mayN deal ps ls start eps wait) ∧ Hid (Mod (fun k => G < k) w1 wr)) (fun _ v _ => np - (intOf v).toNat)
  case atStart =>
    refine ⟨0, g, rfl, rfl, by omega, Lib.hid (fun h => ⟨of_decide_eq_true (by rw [HGT.out, h]), by simp, by simp, by simp⟩), Lib.hid (fun h hm => ?_), HX⟩
    have h2 : ¬ ((0 ≤ deal ∧ deal ≤ 65535) ∧ (2 ≤ (np : Int) ∧ (np : Int) ≤ 16) ∧ nl = np ∧ tickN start ∧ timesN eps wait) := of_decide_eq_false (by rw [HGT.out, h])
    obtain ⟨a1, a2, ⟨a3, a4, -, -⟩, a5, -, a6, a7⟩ := hm
    rw [HPL.out] at a3 a4 a5
    rw [HLL.out] at a5
    exact h2 ⟨⟨a1, a2⟩, ⟨by omega, by omega⟩, a5, a6, a7⟩
  case round =>
    clear HX
    obtain ⟨i, b, rfl, rfl, hi, HT, HF, HX⟩ := hrel
    cases b with
    | false =>
      have HN := Lib.hid (show makeN deal ps ls hash start eps wait = (Pl.zero, 1) from if_neg (HF.out rfl))
      obtain ⟨hz, hpost⟩ := HFAIL.out 1 (HN.out) wr HX.out
      have HZW := Lib.hid hz
      have HEND := Lib.hid hpost
      clear hz hpost
      go_wp2_with (refine wpList_store_row rfl _ _ _ rfl G #[.int .i64 0, .slice none 0 0, .slice none 0 0, .string ⟨#[]⟩, .int .i64 0, .int .i64 0, .int .i64 0, .slice none 0 0] rfl rfl 25 _ HZW.out info_plan rfl (by simp [Value.oneCell']) ?_)
      refine bodyPost_ret (results_cell_row2 rfl _ _ G 25 #[.int .i64 0, .slice none 0 0, .slice none 0 0, .string ⟨#[]⟩, .int .i64 0, .int .i64 0, .int .i64 0, .slice none 0 0] (0, 0) rfl (setRow_heap wr G _ #[.int .i64 0, .slice none 0 0, .slice none 0 0, .string ⟨#[]⟩, .int .i64 0, .int .i64 0, .int .i64 0, .slice none 0 0] _ _ HZW.out) Tryz.underlying25 info_plan) rfl ?_
      exact HEND.out
    | true =>
      by_cases hlt : i < np
      · have hnl : nl = np := (HT.out rfl).1.2.2.1
        have hb16 : 2 ≤ np ∧ np ≤ 16 := by have := (HT.out rfl).1.2.1; omega
        have hip : i < ps.length := by rw [HPL.out]; exact hlt
        have hil : i < ls.length := by rw [HLL.out, hnl]; exact hlt
        have hinl : i < nl := by omega
        clear hnl
        have hmw := HN0.out wr HX.out
        obtain ⟨gp, op, rfl, -, hgpw, k2⟩ := row_int HP.out i hip
        obtain ⟨gl, ol, xl, rfl, -, hglw, k3, hits⟩ := HL0.out.at i hil
        have k2' := cell_kept k2 hmw hgpw (not_nil _)
        have k3' := cell_kept k3 hmw hglw (not_nil _)
        clear k2 k3
        have k2 := k2'
        have k3 := k3'
        clear k2' k3'
        obtain ⟨l, hl⟩ : ∃ l, ls[i] = l := ⟨_, rfl⟩
        rw [hl] at hits
        have hlm := HLX.out l (by rw [← hl]; exact List.getElem_mem _)
        obtain ⟨px, cx, rfl⟩ := hits.form
        obtain ⟨n, hn⟩ : ∃ n, l.length = n := ⟨_, rfl⟩
        rw [hn] at k3 hits hlm
        obtain ⟨x, hx⟩ : ∃ x, ps.getD i 0 = x := ⟨_, rfl⟩
        rw [hx] at k2
        have k0 := HR0.out wr HX.out
        have k1 := HR1.out wr HX.out
        have hpe : ps[i] = x := by rw [← hx]; simp [hip]
        have HTP : Hid (ps.take (i + 1) = ps.take i ++ [x]) := Lib.hid (by rw [List.take_succ_eq_append_getElem hip, hpe])
        have HTL : Hid (ls.take (i + 1) = ls.take i ++ [l]) := Lib.hid (by rw [List.take_succ_eq_append_getElem hil, hl])
        have HXM : Hid (x ∈ ps) := Lib.hid (by rw [← hpe]; exact List.getElem_mem _)
        have HLM : Hid (l ∈ ls) := Lib.hid (by rw [← hl]; exact List.getElem_mem _)
        have HNDX : Hid (x ∈ ps.take i → ¬ ps.Nodup) := Lib.hid (fun h hnd => by
          obtain ⟨j, hj, hje⟩ := List.getElem_of_mem h
          rw [List.length_take] at hj
          rw [List.getElem_take] at hje
          exact (List.pairwise_iff_getElem.1 hnd j i (by omega) hip (by omega)) (by rw [hje, hpe]))
        have hrf := rowFront HP.out i (by rw [List.length_map, HPL.out]; exact hi)
        rw [← List.map_take] at hrf
        have HRF := Lib.hid hrf
        clear hrf
        have hsl : ∀ W, (Instr.slice 22 (.slice (some ⟨gp, op, none⟩) np cp) none (some (.int .i64 (i : Int))) none).run Tryz.prog W = .ok (.slice (some ⟨gp, op, none⟩) i cp) W := fun W => slice_frontI (some ⟨gp, op, none⟩) np cp i (by omega) W
        have HLEG : Hid (∀ W, Mod nil wr W → Calls Tryz.prog 150 #[.slice px n cx] W fun e w' => e = .returned (.bool (legB l)) ∧ Mod nil wr w') := Lib.hid (fun W m => (refLeg _ px n cx l W ((hits.modNil hmw).modNil m) hlm).mono (fun e w' ⟨a, b⟩ => ⟨a, m.thenNil b⟩))
        have HRNG := HT.out rfl
        have HHX := Lib.hid HRNG
        have hcp2 : i ≤ cp := by omega
        clear hl hits hlm hn hx hpe hmw HT HF hip hil HRNG
        by_cases hx1 : 0 ≤ x ∧ x ≤ 15
        case neg =>
          have h6 : ∀ W, _ := fun W => refIn x 0 15 W
          rw [decide_eq_false hx1] at h6
          have HI6 := Lib.hid h6
          have HNF : Hid (¬ mayN deal ps ls start eps wait) := Lib.hid (fun hm => hx1 (by have := hm.2.2.1.2.2.1 x HXM.out; omega))
          clear h6 hx1
          go_upto_region 6 with (fail)
          refine wp_region_held_drew (S := (fun w' => w'.cell? ⟨r, 0, none⟩ = some (.slice (some ⟨gp, op, none⟩) np cp) ∧ w'.cell? ⟨r, 1, none⟩ = some (.slice (some ⟨gl, ol, none⟩) nl cl) ∧ w'.cell? ⟨gp, op + i, none⟩ = some (.int .i64 x) ∧ w'.cell? ⟨gl, ol + i, none⟩ = some (.slice px n cx))) (by kernel_rfl) (⟨k0, k1, k2, k3⟩) (fun hHeld => ?_)
          refine wpAnyH_take (i := 0) (v := ?_) rfl (by kernel_rfl) (by kernel_rfl) (by kernel_rfl) (fun _ _ _ h => h) (Or.inl ⟨by kernel_rfl, ?_⟩) (by assumption) ?_
          rotate_left
          · intro w hSw; (try dsimp only at hSw); (first | (go_simp; done) | (go_simp; with_reducible rfl))
          (try simp only [Act.put, List.getElem_toArray, List.getElem_cons_succ, List.getElem_cons_zero, List.setIfInBounds_toArray, List.set_cons_succ, List.set_cons_zero])
          refine wpAnyH_take (i := 1) (v := ?_) rfl (by kernel_rfl) (by kernel_rfl) (by kernel_rfl) (fun _ _ _ h => h) (Or.inl ⟨by kernel_rfl, ?_⟩) (by assumption) ?_
          rotate_left
          · intro w hSw; (try dsimp only at hSw); (first | (go_simp; done) | (go_simp; with_reducible rfl))
          (try simp only [Act.put, List.getElem_toArray, List.getElem_cons_succ, List.getElem_cons_zero, List.setIfInBounds_toArray, List.set_cons_succ, List.set_cons_zero])
          refine wpAnyH_take (i := 2) (v := ?_) rfl (by kernel_rfl) (by kernel_rfl) (by kernel_rfl) (fun _ _ _ h => h) (Or.inl ⟨by kernel_rfl, ?_⟩) (by assumption) ?_
          rotate_left
          · intro w hSw; (try dsimp only at hSw); (first | (go_simp; done) | (go_simp; with_reducible rfl))
          (try simp only [Act.put, List.getElem_toArray, List.getElem_cons_succ, List.getElem_cons_zero, List.setIfInBounds_toArray, List.set_cons_succ, List.set_cons_zero])
          refine wpAnyH_take (i := 3) (v := ?_) rfl (by kernel_rfl) (by kernel_rfl) (by kernel_rfl) (fun _ _ _ h => h) (Or.inl ⟨by kernel_rfl, ?_⟩) (by assumption) ?_
          rotate_left
          · intro w hSw; (try dsimp only at hSw); (first | (go_simp; done) | (go_simp; with_reducible rfl))
          (try simp only [Act.put, List.getElem_toArray, List.getElem_cons_succ, List.getElem_cons_zero, List.setIfInBounds_toArray, List.set_cons_succ, List.set_cons_zero])
          refine wpAnyH_take (i := 4) (v := ?_) rfl (by kernel_rfl) (by kernel_rfl) (by kernel_rfl) (fun _ _ _ h => h) (Or.inl ⟨by kernel_rfl, ?_⟩) (by assumption) ?_
          rotate_left
          · intro w hSw; (try dsimp only at hSw); (first | (go_simp; done) | (go_simp; with_reducible rfl))
          (try simp only [Act.put, List.getElem_toArray, List.getElem_cons_succ, List.getElem_cons_zero, List.setIfInBounds_toArray, List.set_cons_succ, List.set_cons_zero])
          refine wpAnyH_ready (rs := [5]) (by kernel_rfl) (by simp) ?_
          refine AllReadyH.cons (i := 5) rfl (fun K hK => ?_) AllReadyH.nil
          (try dsimp (config := { proj := false }) only [List.getElem_toArray, List.getElem_cons_succ, List.getElem_cons_zero])
          go_simp
          refine (HI6.out _).mono ?_
          rintro e w' ⟨rfl, rfl⟩
          refine hK.out _ _ ⟨k0, k1, k2, k3⟩ (fun hHeld => ?_)
          clear hK K
          (try simp only [Act.put, List.setIfInBounds_toArray, List.set_cons_zero, List.set_cons_succ])
          (try simp only [List.set_cons_succ, List.set_cons_zero])
          refine wpAnyH_take (i := 6) (v := ?_) rfl (by kernel_rfl) (by kernel_rfl) (by kernel_rfl) (fun _ _ _ h => h) (Or.inl ⟨by kernel_rfl, ?_⟩) (by assumption) ?_
          rotate_left
          · intro w hSw; (try dsimp only at hSw); (first | (go_simp; done) | (go_simp; with_reducible rfl))
          (try simp only [Act.put, List.getElem_toArray, List.getElem_cons_succ, List.getElem_cons_zero, List.setIfInBounds_toArray, List.set_cons_succ, List.set_cons_zero])
          refine wpAnyH_take (i := 7) (v := undef) rfl (by kernel_rfl) (by kernel_rfl) (by kernel_rfl) (fun _ _ _ h => h) (Or.inr ⟨by kernel_rfl, rfl⟩) (by assumption) ?_
          (try simp only [Act.put, List.getElem_toArray, List.getElem_cons_succ, List.getElem_cons_zero, List.setIfInBounds_toArray, List.set_cons_succ, List.set_cons_zero])
          refine wpAnyH_take (i := 8) (v := undef) rfl (by kernel_rfl) (by kernel_rfl) (by kernel_rfl) (fun _ _ _ h => h) (Or.inr ⟨by kernel_rfl, rfl⟩) (by assumption) ?_
          (try simp only [Act.put, List.getElem_toArray, List.getElem_cons_succ, List.getElem_cons_zero, List.setIfInBounds_toArray, List.set_cons_succ, List.set_cons_zero])
          refine wpAnyH_take (i := 9) (v := undef) rfl (by kernel_rfl) (by kernel_rfl) (by kernel_rfl) (fun _ _ _ h => h) (Or.inr ⟨by kernel_rfl, rfl⟩) (by assumption) ?_
          (try simp only [Act.put, List.getElem_toArray, List.getElem_cons_succ, List.getElem_cons_zero, List.setIfInBounds_toArray, List.set_cons_succ, List.set_cons_zero])
          refine wpAnyH_take (i := 10) (v := undef) rfl (by kernel_rfl) (by kernel_rfl) (by kernel_rfl) (fun _ _ _ h => h) (Or.inr ⟨by kernel_rfl, rfl⟩) (by assumption) ?_
          (try simp only [Act.put, List.getElem_toArray, List.getElem_cons_succ, List.getElem_cons_zero, List.setIfInBounds_toArray, List.set_cons_succ, List.set_cons_zero])
          refine wpAnyH_take (i := 11) (v := undef) rfl (by kernel_rfl) (by kernel_rfl) (by kernel_rfl) (fun _ _ _ h => h) (Or.inr ⟨by kernel_rfl, rfl⟩) (by assumption) ?_
          (try simp only [Act.put, List.getElem_toArray, List.getElem_cons_succ, List.getElem_cons_zero, List.setIfInBounds_toArray, List.set_cons_succ, List.set_cons_zero])
          refine wpAnyH_take (i := 12) (v := undef) rfl (by kernel_rfl) (by kernel_rfl) (by kernel_rfl) (fun _ _ _ h => h) (Or.inr ⟨by kernel_rfl, rfl⟩) (by assumption) ?_
          (try simp only [Act.put, List.getElem_toArray, List.getElem_cons_succ, List.getElem_cons_zero, List.setIfInBounds_toArray, List.set_cons_succ, List.set_cons_zero])
          refine wpAnyH_take (i := 13) (v := undef) rfl (by kernel_rfl) (by kernel_rfl) (by kernel_rfl) (fun _ _ _ h => h) (Or.inr ⟨by kernel_rfl, rfl⟩) (by assumption) ?_
          (try simp only [Act.put, List.getElem_toArray, List.getElem_cons_succ, List.getElem_cons_zero, List.setIfInBounds_toArray, List.set_cons_succ, List.set_cons_zero])
          refine wpAnyH_take (i := 14) (v := undef) rfl (by kernel_rfl) (by kernel_rfl) (by kernel_rfl) (fun _ _ _ h => h) (Or.inr ⟨by kernel_rfl, rfl⟩) (by assumption) ?_
          (try simp only [Act.put, List.getElem_toArray, List.getElem_cons_succ, List.getElem_cons_zero, List.setIfInBounds_toArray, List.set_cons_succ, List.set_cons_zero])
          refine wpAnyH_take (i := 15) (v := undef) rfl (by kernel_rfl) (by kernel_rfl) (by kernel_rfl) (fun _ _ _ h => h) (Or.inr ⟨by kernel_rfl, rfl⟩) (by assumption) ?_
          (try simp only [Act.put, List.getElem_toArray, List.getElem_cons_succ, List.getElem_cons_zero, List.setIfInBounds_toArray, List.set_cons_succ, List.set_cons_zero])
          refine wpAnyH_take (i := 16) (v := undef) rfl (by kernel_rfl) (by kernel_rfl) (by kernel_rfl) (fun _ _ _ h => h) (Or.inr ⟨by kernel_rfl, rfl⟩) (by assumption) ?_
          (try simp only [Act.put, List.getElem_toArray, List.getElem_cons_succ, List.getElem_cons_zero, List.setIfInBounds_toArray, List.set_cons_succ, List.set_cons_zero])
          refine wpAnyH_take (i := 17) (v := undef) rfl (by kernel_rfl) (by kernel_rfl) (by kernel_rfl) (fun _ _ _ h => h) (Or.inr ⟨by kernel_rfl, rfl⟩) (by assumption) ?_
          (try simp only [Act.put, List.getElem_toArray, List.getElem_cons_succ, List.getElem_cons_zero, List.setIfInBounds_toArray, List.set_cons_succ, List.set_cons_zero])
          refine wpAnyH_take (i := 18) (v := ?_) rfl (by kernel_rfl) (by kernel_rfl) (by kernel_rfl) (fun _ _ _ h => h) (Or.inl ⟨by kernel_rfl, ?_⟩) (by assumption) ?_
          rotate_left
          · intro w hSw; (try dsimp only at hSw); (first | (go_simp; done) | (go_simp; with_reducible rfl))
          (try simp only [Act.put, List.getElem_toArray, List.getElem_cons_succ, List.getElem_cons_zero, List.setIfInBounds_toArray, List.set_cons_succ, List.set_cons_zero])
          refine wpAnyH_take (i := 19) (v := ?_) rfl (by kernel_rfl) (by kernel_rfl) (by kernel_rfl) (fun _ _ _ h => h) (Or.inl ⟨by kernel_rfl, ?_⟩) (by assumption) ?_
          rotate_left
          · intro w hSw; (try dsimp only at hSw); (first | (go_simp; done) | (go_simp; with_reducible rfl))
          (try simp only [Act.put, List.getElem_toArray, List.getElem_cons_succ, List.getElem_cons_zero, List.setIfInBounds_toArray, List.set_cons_succ, List.set_cons_zero])
          refine wpAnyH_take (i := 20) (v := undef) rfl (by kernel_rfl) (by kernel_rfl) (by kernel_rfl) (fun _ _ _ h => h) (Or.inr ⟨by kernel_rfl, rfl⟩) (by assumption) ?_
          (try simp only [Act.put, List.getElem_toArray, List.getElem_cons_succ, List.getElem_cons_zero, List.setIfInBounds_toArray, List.set_cons_succ, List.set_cons_zero])
          refine wpAnyH_take (i := 21) (v := undef) rfl (by kernel_rfl) (by kernel_rfl) (by kernel_rfl) (fun _ _ _ h => h) (Or.inr ⟨by kernel_rfl, rfl⟩) (by assumption) ?_
          (try simp only [Act.put, List.getElem_toArray, List.getElem_cons_succ, List.getElem_cons_zero, List.setIfInBounds_toArray, List.set_cons_succ, List.set_cons_zero])
          refine wpAnyH_take (i := 22) (v := undef) rfl (by kernel_rfl) (by kernel_rfl) (by kernel_rfl) (fun _ _ _ h => h) (Or.inr ⟨by kernel_rfl, rfl⟩) (by assumption) ?_
          (try simp only [Act.put, List.getElem_toArray, List.getElem_cons_succ, List.getElem_cons_zero, List.setIfInBounds_toArray, List.set_cons_succ, List.set_cons_zero])
          refine wpAnyH_take (i := 23) (v := undef) rfl (by kernel_rfl) (by kernel_rfl) (by kernel_rfl) (fun _ _ _ h => h) (Or.inr ⟨by kernel_rfl, rfl⟩) (by assumption) ?_
          (try simp only [Act.put, List.getElem_toArray, List.getElem_cons_succ, List.getElem_cons_zero, List.setIfInBounds_toArray, List.set_cons_succ, List.set_cons_zero])
          refine wpAnyH_take (i := 24) (v := undef) rfl (by kernel_rfl) (by kernel_rfl) (by kernel_rfl) (fun _ _ _ h => h) (Or.inr ⟨by kernel_rfl, rfl⟩) (by assumption) ?_
          (try simp only [Act.put, List.getElem_toArray, List.getElem_cons_succ, List.getElem_cons_zero, List.setIfInBounds_toArray, List.set_cons_succ, List.set_cons_zero])
          refine wpAnyH_take (i := 25) (v := undef) rfl (by kernel_rfl) (by kernel_rfl) (by kernel_rfl) (fun _ _ _ h => h) (Or.inr ⟨by kernel_rfl, rfl⟩) (by assumption) ?_
          (try simp only [Act.put, List.getElem_toArray, List.getElem_cons_succ, List.getElem_cons_zero, List.setIfInBounds_toArray, List.set_cons_succ, List.set_cons_zero])
          refine wpAnyH_take (i := 26) (v := ?_) rfl (by kernel_rfl) (by kernel_rfl) (by kernel_rfl) (fun _ _ _ h => h) (Or.inl ⟨by kernel_rfl, ?_⟩) (by assumption) ?_
          rotate_left
          · intro w hSw; (try dsimp only at hSw); (first | (go_simp; done) | (go_simp; with_reducible rfl))
          (try simp only [Act.put, List.getElem_toArray, List.getElem_cons_succ, List.getElem_cons_zero, List.setIfInBounds_toArray, List.set_cons_succ, List.set_cons_zero])
          refine wpAnyH_take (i := 27) (v := ?_) rfl (by kernel_rfl) (by kernel_rfl) (by kernel_rfl) (fun _ _ _ h => h) (Or.inl ⟨by kernel_rfl, ?_⟩) (by assumption) ?_
          rotate_left
          · intro w hSw; (try dsimp only at hSw); (first | (go_simp; done) | (go_simp; with_reducible rfl))
          (try simp only [Act.put, List.getElem_toArray, List.getElem_cons_succ, List.getElem_cons_zero, List.setIfInBounds_toArray, List.set_cons_succ, List.set_cons_zero])
          refine wpAnyH_done (by kernel_rfl) ?_ _
          clear k0 k1 k2 k3 hsl
          go_wp2_with fail
          exact ⟨⟨i + 1, false, rfl, by go_num, by omega, Lib.hid (fun h => by cases h), Lib.hid (fun _ => HNF.out), Lib.hid HX.out.drew⟩, by simp [intOf]; omega⟩
        have h6 : ∀ W, _ := fun W => refIn x 0 15 W
        rw [decide_eq_true hx1] at h6
        have HI6 := Lib.hid h6
        have hxx := Lib.hid hx1
        clear h6 hx1
        have HH0 : ∀ W, Mod nil wr W → _ := fun W m => refHas _ _ (ps.take i) x W ((HRF.out.modNil (HN0.out wr HX.out)).modNil m) (by rw [List.length_take]; omega)
        by_cases hx2 : x ∈ ps.take i
        case pos =>
          rw [decide_eq_true hx2] at HH0
          have HHAS := Lib.hid HH0
          have HNF : Hid (¬ mayN deal ps ls start eps wait) := Lib.hid (fun hm => HNDX.out hx2 hm.2.2.1.2.2.2)
          clear HH0 hx2
          go_upto_region 6 with (fail)
          refine wp_region_held_drew (S := (fun w' => w'.cell? ⟨r, 0, none⟩ = some (.slice (some ⟨gp, op, none⟩) np cp) ∧ w'.cell? ⟨r, 1, none⟩ = some (.slice (some ⟨gl, ol, none⟩) nl cl) ∧ w'.cell? ⟨gp, op + i, none⟩ = some (.int .i64 x) ∧ w'.cell? ⟨gl, ol + i, none⟩ = some (.slice px n cx))) (by kernel_rfl) (⟨k0, k1, k2, k3⟩) (fun hHeld => ?_)
          refine wpAnyH_take (i := 0) (v := ?_) rfl (by kernel_rfl) (by kernel_rfl) (by kernel_rfl) (fun _ _ _ h => h) (Or.inl ⟨by kernel_rfl, ?_⟩) (by assumption) ?_
          rotate_left
          · intro w hSw; (try dsimp only at hSw); (first | (go_simp; done) | (go_simp; with_reducible rfl))
          (try simp only [Act.put, List.getElem_toArray, List.getElem_cons_succ, List.getElem_cons_zero, List.setIfInBounds_toArray, List.set_cons_succ, List.set_cons_zero])
          refine wpAnyH_take (i := 1) (v := ?_) rfl (by kernel_rfl) (by kernel_rfl) (by kernel_rfl) (fun _ _ _ h => h) (Or.inl ⟨by kernel_rfl, ?_⟩) (by assumption) ?_
          rotate_left
          · intro w hSw; (try dsimp only at hSw); (first | (go_simp; done) | (go_simp; with_reducible rfl))
          (try simp only [Act.put, List.getElem_toArray, List.getElem_cons_succ, List.getElem_cons_zero, List.setIfInBounds_toArray, List.set_cons_succ, List.set_cons_zero])
          refine wpAnyH_take (i := 2) (v := ?_) rfl (by kernel_rfl) (by kernel_rfl) (by kernel_rfl) (fun _ _ _ h => h) (Or.inl ⟨by kernel_rfl, ?_⟩) (by assumption) ?_
          rotate_left
          · intro w hSw; (try dsimp only at hSw); (first | (go_simp; done) | (go_simp; with_reducible rfl))
          (try simp only [Act.put, List.getElem_toArray, List.getElem_cons_succ, List.getElem_cons_zero, List.setIfInBounds_toArray, List.set_cons_succ, List.set_cons_zero])
          refine wpAnyH_take (i := 3) (v := ?_) rfl (by kernel_rfl) (by kernel_rfl) (by kernel_rfl) (fun _ _ _ h => h) (Or.inl ⟨by kernel_rfl, ?_⟩) (by assumption) ?_
          rotate_left
          · intro w hSw; (try dsimp only at hSw); (first | (go_simp; done) | (go_simp; with_reducible rfl))
          (try simp only [Act.put, List.getElem_toArray, List.getElem_cons_succ, List.getElem_cons_zero, List.setIfInBounds_toArray, List.set_cons_succ, List.set_cons_zero])
          refine wpAnyH_take (i := 4) (v := ?_) rfl (by kernel_rfl) (by kernel_rfl) (by kernel_rfl) (fun _ _ _ h => h) (Or.inl ⟨by kernel_rfl, ?_⟩) (by assumption) ?_
          rotate_left
          · intro w hSw; (try dsimp only at hSw); (first | (go_simp; done) | (go_simp; with_reducible rfl))
          (try simp only [Act.put, List.getElem_toArray, List.getElem_cons_succ, List.getElem_cons_zero, List.setIfInBounds_toArray, List.set_cons_succ, List.set_cons_zero])
          refine wpAnyH_ready (rs := [5]) (by kernel_rfl) (by simp) ?_
          refine AllReadyH.cons (i := 5) rfl (fun K hK => ?_) AllReadyH.nil
          (try dsimp (config := { proj := false }) only [List.getElem_toArray, List.getElem_cons_succ, List.getElem_cons_zero])
          go_simp
          refine (HI6.out _).mono ?_
          rintro e w' ⟨rfl, rfl⟩
          refine hK.out _ _ ⟨k0, k1, k2, k3⟩ (fun hHeld => ?_)
          clear hK K
          (try simp only [Act.put, List.setIfInBounds_toArray, List.set_cons_zero, List.set_cons_succ])
          (try simp only [List.set_cons_succ, List.set_cons_zero])
          refine wpAnyH_take (i := 6) (v := ?_) rfl (by kernel_rfl) (by kernel_rfl) (by kernel_rfl) (fun _ _ _ h => h) (Or.inl ⟨by kernel_rfl, ?_⟩) (by assumption) ?_
          rotate_left
          · intro w hSw; (try dsimp only at hSw); (first | (go_simp; done) | (go_simp; with_reducible rfl))
          (try simp only [Act.put, List.getElem_toArray, List.getElem_cons_succ, List.getElem_cons_zero, List.setIfInBounds_toArray, List.set_cons_succ, List.set_cons_zero])
          refine wpAnyH_take (i := 7) (v := ?_) rfl (by kernel_rfl) (by kernel_rfl) (by kernel_rfl) (fun _ _ _ h => h) (Or.inl ⟨by kernel_rfl, ?_⟩) (by assumption) ?_
          rotate_left
          · intro w hSw; (try dsimp only at hSw); (first | (go_simp; done) | (go_simp; with_reducible rfl))
          (try simp only [Act.put, List.getElem_toArray, List.getElem_cons_succ, List.getElem_cons_zero, List.setIfInBounds_toArray, List.set_cons_succ, List.set_cons_zero])
          refine wpAnyH_take (i := 8) (v := ?_) rfl (by kernel_rfl) (by kernel_rfl) (by kernel_rfl) (fun _ _ _ h => h) (Or.inl ⟨by kernel_rfl, ?_⟩) (by assumption) ?_
          rotate_left
          · intro w hSw; (try dsimp only at hSw); (first | (go_simp; done) | (go_simp; with_reducible rfl))
          (try simp only [Act.put, List.getElem_toArray, List.getElem_cons_succ, List.getElem_cons_zero, List.setIfInBounds_toArray, List.set_cons_succ, List.set_cons_zero])
          refine wpAnyH_take (i := 9) (v := ?_) rfl (by kernel_rfl) (by kernel_rfl) (by kernel_rfl) (fun _ _ _ h => h) (Or.inl ⟨by kernel_rfl, ?_⟩) (by assumption) ?_
          rotate_left
          · intro w hSw; (try dsimp only at hSw); (first | (go_simp; done) | (go_simp; with_reducible rfl))
          (try simp only [Act.put, List.getElem_toArray, List.getElem_cons_succ, List.getElem_cons_zero, List.setIfInBounds_toArray, List.set_cons_succ, List.set_cons_zero])
          refine wpAnyH_take (i := 10) (v := ?_) rfl (by kernel_rfl) (by kernel_rfl) (by kernel_rfl) (fun _ _ _ h => h) (Or.inl ⟨by kernel_rfl, ?_⟩) (by assumption) ?_
          rotate_left
          · intro w hSw; (try dsimp only at hSw); (first | (go_simp; done) | (go_simp; with_reducible rfl))
          (try simp only [Act.put, List.getElem_toArray, List.getElem_cons_succ, List.getElem_cons_zero, List.setIfInBounds_toArray, List.set_cons_succ, List.set_cons_zero])
          refine wpAnyH_take (i := 11) (v := ?_) rfl (by kernel_rfl) (by kernel_rfl) (by kernel_rfl) (fun _ _ _ h => h) (Or.inl ⟨by kernel_rfl, ?_⟩) (by assumption) ?_
          rotate_left
          · intro w hSw; (try dsimp only at hSw); (first | (go_simp; done) | (go_simp; with_reducible rfl))
          (try simp only [Act.put, List.getElem_toArray, List.getElem_cons_succ, List.getElem_cons_zero, List.setIfInBounds_toArray, List.set_cons_succ, List.set_cons_zero])
          refine wpAnyH_take (i := 12) (v := ?_) rfl (by kernel_rfl) (by kernel_rfl) (by kernel_rfl) (fun _ _ _ h => h) (Or.inl ⟨by kernel_rfl, ?_⟩) (by assumption) ?_
          rotate_left
          · intro w hSw; (try dsimp only at hSw); (first | (go_simp; done) | (go_simp; with_reducible rfl))
          (try simp only [Act.put, List.getElem_toArray, List.getElem_cons_succ, List.getElem_cons_zero, List.setIfInBounds_toArray, List.set_cons_succ, List.set_cons_zero])
          refine wpAnyH_take (i := 13) (v := ?_) rfl (by kernel_rfl) (by kernel_rfl) (by kernel_rfl) (fun _ _ _ h => h) (Or.inl ⟨by kernel_rfl, ?_⟩) (by assumption) ?_
          rotate_left
          · intro w hSw; (try dsimp only at hSw); (first | (go_simp; done) | (go_simp; with_reducible rfl))
          (try simp only [Act.put, List.getElem_toArray, List.getElem_cons_succ, List.getElem_cons_zero, List.setIfInBounds_toArray, List.set_cons_succ, List.set_cons_zero])
          refine wpAnyH_take (i := 14) (v := ?_) rfl (by kernel_rfl) (by kernel_rfl) (by kernel_rfl) (fun _ _ _ h => h) (Or.inl ⟨by kernel_rfl, ?_⟩) (by assumption) ?_
          rotate_left
          · intro w hSw; (try dsimp only at hSw); (first | (go_simp; done) | (go_simp; with_reducible rfl))
          (try simp only [Act.put, List.getElem_toArray, List.getElem_cons_succ, List.getElem_cons_zero, List.setIfInBounds_toArray, List.set_cons_succ, List.set_cons_zero])
          refine wpAnyH_take (i := 15) (v := ?_) rfl (by kernel_rfl) (by kernel_rfl) (by kernel_rfl) (fun _ _ _ h => h) (Or.inl ⟨by kernel_rfl, ?_⟩) (by assumption) ?_
          rotate_left
          · intro w hSw; (try dsimp only at hSw); (first | (go_simp; done) | (go_simp; with_reducible rfl))
          (try simp only [Act.put, List.getElem_toArray, List.getElem_cons_succ, List.getElem_cons_zero, List.setIfInBounds_toArray, List.set_cons_succ, List.set_cons_zero])
          refine wpAnyH_ready (rs := [16]) (by kernel_rfl) (by simp) ?_
          refine AllReadyH.cons (i := 16) rfl (fun K hK => ?_) AllReadyH.nil
          (try dsimp (config := { proj := false }) only [List.getElem_toArray, List.getElem_cons_succ, List.getElem_cons_zero])
          go_simp
          refine (HHAS.out _ ?_).mono ?_
          · (repeat (first | exact Mod.refl _ _ | refine Mod.drew ?_))
          rintro e w' ⟨rfl, rfl⟩
          refine hK.out _ _ ⟨k0, k1, k2, k3⟩ (fun hHeld => ?_)
          clear hK K
          (try simp only [Act.put, List.setIfInBounds_toArray, List.set_cons_zero, List.set_cons_succ])
          (try simp only [List.set_cons_succ, List.set_cons_zero])
          refine wpAnyH_take (i := 17) (v := ?_) rfl (by kernel_rfl) (by kernel_rfl) (by kernel_rfl) (fun _ _ _ h => h) (Or.inl ⟨by kernel_rfl, ?_⟩) (by assumption) ?_
          rotate_left
          · intro w hSw; (try dsimp only at hSw); (first | (go_simp; done) | (go_simp; with_reducible rfl))
          (try simp only [Act.put, List.getElem_toArray, List.getElem_cons_succ, List.getElem_cons_zero, List.setIfInBounds_toArray, List.set_cons_succ, List.set_cons_zero])
          refine wpAnyH_take (i := 18) (v := ?_) rfl (by kernel_rfl) (by kernel_rfl) (by kernel_rfl) (fun _ _ _ h => h) (Or.inl ⟨by kernel_rfl, ?_⟩) (by assumption) ?_
          rotate_left
          · intro w hSw; (try dsimp only at hSw); (first | (go_simp; done) | (go_simp; with_reducible rfl))
          (try simp only [Act.put, List.getElem_toArray, List.getElem_cons_succ, List.getElem_cons_zero, List.setIfInBounds_toArray, List.set_cons_succ, List.set_cons_zero])
          refine wpAnyH_take (i := 19) (v := ?_) rfl (by kernel_rfl) (by kernel_rfl) (by kernel_rfl) (fun _ _ _ h => h) (Or.inl ⟨by kernel_rfl, ?_⟩) (by assumption) ?_
          rotate_left
          · intro w hSw; (try dsimp only at hSw); (first | (go_simp; done) | (go_simp; with_reducible rfl))
          (try simp only [Act.put, List.getElem_toArray, List.getElem_cons_succ, List.getElem_cons_zero, List.setIfInBounds_toArray, List.set_cons_succ, List.set_cons_zero])
          refine wpAnyH_take (i := 20) (v := undef) rfl (by kernel_rfl) (by kernel_rfl) (by kernel_rfl) (fun _ _ _ h => h) (Or.inr ⟨by kernel_rfl, rfl⟩) (by assumption) ?_
          (try simp only [Act.put, List.getElem_toArray, List.getElem_cons_succ, List.getElem_cons_zero, List.setIfInBounds_toArray, List.set_cons_succ, List.set_cons_zero])
          refine wpAnyH_take (i := 21) (v := undef) rfl (by kernel_rfl) (by kernel_rfl) (by kernel_rfl) (fun _ _ _ h => h) (Or.inr ⟨by kernel_rfl, rfl⟩) (by assumption) ?_
          (try simp only [Act.put, List.getElem_toArray, List.getElem_cons_succ, List.getElem_cons_zero, List.setIfInBounds_toArray, List.set_cons_succ, List.set_cons_zero])
          refine wpAnyH_take (i := 22) (v := undef) rfl (by kernel_rfl) (by kernel_rfl) (by kernel_rfl) (fun _ _ _ h => h) (Or.inr ⟨by kernel_rfl, rfl⟩) (by assumption) ?_
          (try simp only [Act.put, List.getElem_toArray, List.getElem_cons_succ, List.getElem_cons_zero, List.setIfInBounds_toArray, List.set_cons_succ, List.set_cons_zero])
          refine wpAnyH_take (i := 23) (v := undef) rfl (by kernel_rfl) (by kernel_rfl) (by kernel_rfl) (fun _ _ _ h => h) (Or.inr ⟨by kernel_rfl, rfl⟩) (by assumption) ?_
          (try simp only [Act.put, List.getElem_toArray, List.getElem_cons_succ, List.getElem_cons_zero, List.setIfInBounds_toArray, List.set_cons_succ, List.set_cons_zero])
          refine wpAnyH_take (i := 24) (v := undef) rfl (by kernel_rfl) (by kernel_rfl) (by kernel_rfl) (fun _ _ _ h => h) (Or.inr ⟨by kernel_rfl, rfl⟩) (by assumption) ?_
          (try simp only [Act.put, List.getElem_toArray, List.getElem_cons_succ, List.getElem_cons_zero, List.setIfInBounds_toArray, List.set_cons_succ, List.set_cons_zero])
          refine wpAnyH_take (i := 25) (v := undef) rfl (by kernel_rfl) (by kernel_rfl) (by kernel_rfl) (fun _ _ _ h => h) (Or.inr ⟨by kernel_rfl, rfl⟩) (by assumption) ?_
          (try simp only [Act.put, List.getElem_toArray, List.getElem_cons_succ, List.getElem_cons_zero, List.setIfInBounds_toArray, List.set_cons_succ, List.set_cons_zero])
          refine wpAnyH_take (i := 26) (v := ?_) rfl (by kernel_rfl) (by kernel_rfl) (by kernel_rfl) (fun _ _ _ h => h) (Or.inl ⟨by kernel_rfl, ?_⟩) (by assumption) ?_
          rotate_left
          · intro w hSw; (try dsimp only at hSw); (first | (go_simp; done) | (go_simp; with_reducible rfl))
          (try simp only [Act.put, List.getElem_toArray, List.getElem_cons_succ, List.getElem_cons_zero, List.setIfInBounds_toArray, List.set_cons_succ, List.set_cons_zero])
          refine wpAnyH_take (i := 27) (v := ?_) rfl (by kernel_rfl) (by kernel_rfl) (by kernel_rfl) (fun _ _ _ h => h) (Or.inl ⟨by kernel_rfl, ?_⟩) (by assumption) ?_
          rotate_left
          · intro w hSw; (try dsimp only at hSw); (first | (go_simp; done) | (go_simp; with_reducible rfl))
          (try simp only [Act.put, List.getElem_toArray, List.getElem_cons_succ, List.getElem_cons_zero, List.setIfInBounds_toArray, List.set_cons_succ, List.set_cons_zero])
          refine wpAnyH_done (by kernel_rfl) ?_ _
          clear k0 k1 k2 k3 hsl
          go_wp2_with fail
          exact ⟨⟨i + 1, false, rfl, by go_num, by omega, Lib.hid (fun h => by cases h), Lib.hid (fun _ => HNF.out), Lib.hid HX.out.drew⟩, by simp [intOf]; omega⟩
        rw [decide_eq_false hx2] at HH0
        have HHAS := Lib.hid HH0
        obtain ⟨q, hq⟩ : ∃ q, legB l = q := ⟨_, rfl⟩
        rw [hq] at HLEG
        have HQ := Lib.hid hq
        have HX2 := Lib.hid hx2
        clear HH0 hx2 hq
        go_upto_region 6 with (fail)
        refine wp_region_held_drew (S := (fun w' => w'.cell? ⟨r, 0, none⟩ = some (.slice (some ⟨gp, op, none⟩) np cp) ∧ w'.cell? ⟨r, 1, none⟩ = some (.slice (some ⟨gl, ol, none⟩) nl cl) ∧ w'.cell? ⟨gp, op + i, none⟩ = some (.int .i64 x) ∧ w'.cell? ⟨gl, ol + i, none⟩ = some (.slice px n cx))) (by kernel_rfl) (⟨k0, k1, k2, k3⟩) (fun hHeld => ?_)
        refine wpAnyH_take (i := 0) (v := ?_) rfl (by kernel_rfl) (by kernel_rfl) (by kernel_rfl) (fun _ _ _ h => h) (Or.inl ⟨by kernel_rfl, ?_⟩) (by assumption) ?_
        rotate_left
        · intro w hSw; (try dsimp only at hSw); (first | (go_simp; done) | (go_simp; with_reducible rfl))
        (try simp only [Act.put, List.getElem_toArray, List.getElem_cons_succ, List.getElem_cons_zero, List.setIfInBounds_toArray, List.set_cons_succ, List.set_cons_zero])
        refine wpAnyH_take (i := 1) (v := ?_) rfl (by kernel_rfl) (by kernel_rfl) (by kernel_rfl) (fun _ _ _ h => h) (Or.inl ⟨by kernel_rfl, ?_⟩) (by assumption) ?_
        rotate_left
        · intro w hSw; (try dsimp only at hSw); (first | (go_simp; done) | (go_simp; with_reducible rfl))
        (try simp only [Act.put, List.getElem_toArray, List.getElem_cons_succ, List.getElem_cons_zero, List.setIfInBounds_toArray, List.set_cons_succ, List.set_cons_zero])
        refine wpAnyH_take (i := 2) (v := ?_) rfl (by kernel_rfl) (by kernel_rfl) (by kernel_rfl) (fun _ _ _ h => h) (Or.inl ⟨by kernel_rfl, ?_⟩) (by assumption) ?_
        rotate_left
        · intro w hSw; (try dsimp only at hSw); (first | (go_simp; done) | (go_simp; with_reducible rfl))
        (try simp only [Act.put, List.getElem_toArray, List.getElem_cons_succ, List.getElem_cons_zero, List.setIfInBounds_toArray, List.set_cons_succ, List.set_cons_zero])
        refine wpAnyH_take (i := 3) (v := ?_) rfl (by kernel_rfl) (by kernel_rfl) (by kernel_rfl) (fun _ _ _ h => h) (Or.inl ⟨by kernel_rfl, ?_⟩) (by assumption) ?_
        rotate_left
        · intro w hSw; (try dsimp only at hSw); (first | (go_simp; done) | (go_simp; with_reducible rfl))
        (try simp only [Act.put, List.getElem_toArray, List.getElem_cons_succ, List.getElem_cons_zero, List.setIfInBounds_toArray, List.set_cons_succ, List.set_cons_zero])
        refine wpAnyH_take (i := 4) (v := ?_) rfl (by kernel_rfl) (by kernel_rfl) (by kernel_rfl) (fun _ _ _ h => h) (Or.inl ⟨by kernel_rfl, ?_⟩) (by assumption) ?_
        rotate_left
        · intro w hSw; (try dsimp only at hSw); (first | (go_simp; done) | (go_simp; with_reducible rfl))
        (try simp only [Act.put, List.getElem_toArray, List.getElem_cons_succ, List.getElem_cons_zero, List.setIfInBounds_toArray, List.set_cons_succ, List.set_cons_zero])
        refine wpAnyH_ready (rs := [5]) (by kernel_rfl) (by simp) ?_
        refine AllReadyH.cons (i := 5) rfl (fun K hK => ?_) AllReadyH.nil
        (try dsimp (config := { proj := false }) only [List.getElem_toArray, List.getElem_cons_succ, List.getElem_cons_zero])
        go_simp
        refine (HI6.out _).mono ?_
        rintro e w' ⟨rfl, rfl⟩
        refine hK.out _ _ ⟨k0, k1, k2, k3⟩ (fun hHeld => ?_)
        clear hK K
        (try simp only [Act.put, List.setIfInBounds_toArray, List.set_cons_zero, List.set_cons_succ])
        (try simp only [List.set_cons_succ, List.set_cons_zero])
        refine wpAnyH_take (i := 6) (v := ?_) rfl (by kernel_rfl) (by kernel_rfl) (by kernel_rfl) (fun _ _ _ h => h) (Or.inl ⟨by kernel_rfl, ?_⟩) (by assumption) ?_
        rotate_left
        · intro w hSw; (try dsimp only at hSw); (first | (go_simp; done) | (go_simp; with_reducible rfl))
        (try simp only [Act.put, List.getElem_toArray, List.getElem_cons_succ, List.getElem_cons_zero, List.setIfInBounds_toArray, List.set_cons_succ, List.set_cons_zero])
        refine wpAnyH_take (i := 7) (v := ?_) rfl (by kernel_rfl) (by kernel_rfl) (by kernel_rfl) (fun _ _ _ h => h) (Or.inl ⟨by kernel_rfl, ?_⟩) (by assumption) ?_
        rotate_left
        · intro w hSw; (try dsimp only at hSw); (first | (go_simp; done) | (go_simp; with_reducible rfl))
        (try simp only [Act.put, List.getElem_toArray, List.getElem_cons_succ, List.getElem_cons_zero, List.setIfInBounds_toArray, List.set_cons_succ, List.set_cons_zero])
        refine wpAnyH_take (i := 8) (v := ?_) rfl (by kernel_rfl) (by kernel_rfl) (by kernel_rfl) (fun _ _ _ h => h) (Or.inl ⟨by kernel_rfl, ?_⟩) (by assumption) ?_
        rotate_left
        · intro w hSw; (try dsimp only at hSw); (first | (go_simp; done) | (go_simp; with_reducible rfl))
        (try simp only [Act.put, List.getElem_toArray, List.getElem_cons_succ, List.getElem_cons_zero, List.setIfInBounds_toArray, List.set_cons_succ, List.set_cons_zero])
        refine wpAnyH_take (i := 9) (v := ?_) rfl (by kernel_rfl) (by kernel_rfl) (by kernel_rfl) (fun _ _ _ h => h) (Or.inl ⟨by kernel_rfl, ?_⟩) (by assumption) ?_
        rotate_left
        · intro w hSw; (try dsimp only at hSw); (first | (go_simp; done) | (go_simp; with_reducible rfl))
        (try simp only [Act.put, List.getElem_toArray, List.getElem_cons_succ, List.getElem_cons_zero, List.setIfInBounds_toArray, List.set_cons_succ, List.set_cons_zero])
        refine wpAnyH_take (i := 10) (v := ?_) rfl (by kernel_rfl) (by kernel_rfl) (by kernel_rfl) (fun _ _ _ h => h) (Or.inl ⟨by kernel_rfl, ?_⟩) (by assumption) ?_
        rotate_left
        · intro w hSw; (try dsimp only at hSw); (first | (go_simp; done) | (go_simp; with_reducible rfl))
        (try simp only [Act.put, List.getElem_toArray, List.getElem_cons_succ, List.getElem_cons_zero, List.setIfInBounds_toArray, List.set_cons_succ, List.set_cons_zero])
        refine wpAnyH_take (i := 11) (v := ?_) rfl (by kernel_rfl) (by kernel_rfl) (by kernel_rfl) (fun _ _ _ h => h) (Or.inl ⟨by kernel_rfl, ?_⟩) (by assumption) ?_
        rotate_left
        · intro w hSw; (try dsimp only at hSw); (first | (go_simp; done) | (go_simp; with_reducible rfl))
        (try simp only [Act.put, List.getElem_toArray, List.getElem_cons_succ, List.getElem_cons_zero, List.setIfInBounds_toArray, List.set_cons_succ, List.set_cons_zero])
        refine wpAnyH_take (i := 12) (v := ?_) rfl (by kernel_rfl) (by kernel_rfl) (by kernel_rfl) (fun _ _ _ h => h) (Or.inl ⟨by kernel_rfl, ?_⟩) (by assumption) ?_
        rotate_left
        · intro w hSw; (try dsimp only at hSw); (first | (go_simp; done) | (go_simp; with_reducible rfl))
        (try simp only [Act.put, List.getElem_toArray, List.getElem_cons_succ, List.getElem_cons_zero, List.setIfInBounds_toArray, List.set_cons_succ, List.set_cons_zero])
        refine wpAnyH_take (i := 13) (v := ?_) rfl (by kernel_rfl) (by kernel_rfl) (by kernel_rfl) (fun _ _ _ h => h) (Or.inl ⟨by kernel_rfl, ?_⟩) (by assumption) ?_
        rotate_left
        · intro w hSw; (try dsimp only at hSw); (first | (go_simp; done) | (go_simp; with_reducible rfl))
        (try simp only [Act.put, List.getElem_toArray, List.getElem_cons_succ, List.getElem_cons_zero, List.setIfInBounds_toArray, List.set_cons_succ, List.set_cons_zero])
        refine wpAnyH_take (i := 14) (v := ?_) rfl (by kernel_rfl) (by kernel_rfl) (by kernel_rfl) (fun _ _ _ h => h) (Or.inl ⟨by kernel_rfl, ?_⟩) (by assumption) ?_
        rotate_left
        · intro w hSw; (try dsimp only at hSw); (first | (go_simp; done) | (go_simp; with_reducible rfl))
        (try simp only [Act.put, List.getElem_toArray, List.getElem_cons_succ, List.getElem_cons_zero, List.setIfInBounds_toArray, List.set_cons_succ, List.set_cons_zero])
        refine wpAnyH_take (i := 15) (v := ?_) rfl (by kernel_rfl) (by kernel_rfl) (by kernel_rfl) (fun _ _ _ h => h) (Or.inl ⟨by kernel_rfl, ?_⟩) (by assumption) ?_
        rotate_left
        · intro w hSw; (try dsimp only at hSw); (first | (go_simp; done) | (go_simp; with_reducible rfl))
        (try simp only [Act.put, List.getElem_toArray, List.getElem_cons_succ, List.getElem_cons_zero, List.setIfInBounds_toArray, List.set_cons_succ, List.set_cons_zero])
        refine wpAnyH_ready (rs := [16]) (by kernel_rfl) (by simp) ?_
        refine AllReadyH.cons (i := 16) rfl (fun K hK => ?_) AllReadyH.nil
        (try dsimp (config := { proj := false }) only [List.getElem_toArray, List.getElem_cons_succ, List.getElem_cons_zero])
        go_simp
        refine (HHAS.out _ ?_).mono ?_
        · (repeat (first | exact Mod.refl _ _ | refine Mod.drew ?_))
        rintro e w' ⟨rfl, rfl⟩
        refine hK.out _ _ ⟨k0, k1, k2, k3⟩ (fun hHeld => ?_)
        clear hK K
        (try simp only [Act.put, List.setIfInBounds_toArray, List.set_cons_zero, List.set_cons_succ])
        (try simp only [List.set_cons_succ, List.set_cons_zero])
        refine wpAnyH_take (i := 17) (v := ?_) rfl (by kernel_rfl) (by kernel_rfl) (by kernel_rfl) (fun _ _ _ h => h) (Or.inl ⟨by kernel_rfl, ?_⟩) (by assumption) ?_
        rotate_left
        · intro w hSw; (try dsimp only at hSw); (first | (go_simp; done) | (go_simp; with_reducible rfl))
        (try simp only [Act.put, List.getElem_toArray, List.getElem_cons_succ, List.getElem_cons_zero, List.setIfInBounds_toArray, List.set_cons_succ, List.set_cons_zero])
        refine wpAnyH_take (i := 18) (v := ?_) rfl (by kernel_rfl) (by kernel_rfl) (by kernel_rfl) (fun _ _ _ h => h) (Or.inl ⟨by kernel_rfl, ?_⟩) (by assumption) ?_
        rotate_left
        · intro w hSw; (try dsimp only at hSw); (first | (go_simp; done) | (go_simp; with_reducible rfl))
        (try simp only [Act.put, List.getElem_toArray, List.getElem_cons_succ, List.getElem_cons_zero, List.setIfInBounds_toArray, List.set_cons_succ, List.set_cons_zero])
        refine wpAnyH_take (i := 19) (v := ?_) rfl (by kernel_rfl) (by kernel_rfl) (by kernel_rfl) (fun _ _ _ h => h) (Or.inl ⟨by kernel_rfl, ?_⟩) (by assumption) ?_
        rotate_left
        · intro w hSw; (try dsimp only at hSw); (first | (go_simp; done) | (go_simp; with_reducible rfl))
        (try simp only [Act.put, List.getElem_toArray, List.getElem_cons_succ, List.getElem_cons_zero, List.setIfInBounds_toArray, List.set_cons_succ, List.set_cons_zero])
        refine wpAnyH_take (i := 20) (v := ?_) rfl (by kernel_rfl) (by kernel_rfl) (by kernel_rfl) (fun _ _ _ h => h) (Or.inl ⟨by kernel_rfl, ?_⟩) (by assumption) ?_
        rotate_left
        · intro w hSw; (try dsimp only at hSw); (first | (go_simp; done) | (go_simp; with_reducible rfl))
        (try simp only [Act.put, List.getElem_toArray, List.getElem_cons_succ, List.getElem_cons_zero, List.setIfInBounds_toArray, List.set_cons_succ, List.set_cons_zero])
        refine wpAnyH_take (i := 21) (v := ?_) rfl (by kernel_rfl) (by kernel_rfl) (by kernel_rfl) (fun _ _ _ h => h) (Or.inl ⟨by kernel_rfl, ?_⟩) (by assumption) ?_
        rotate_left
        · intro w hSw; (try dsimp only at hSw); (first | (go_simp; done) | (go_simp; with_reducible rfl))
        (try simp only [Act.put, List.getElem_toArray, List.getElem_cons_succ, List.getElem_cons_zero, List.setIfInBounds_toArray, List.set_cons_succ, List.set_cons_zero])
        refine wpAnyH_take (i := 22) (v := ?_) rfl (by kernel_rfl) (by kernel_rfl) (by kernel_rfl) (fun _ _ _ h => h) (Or.inl ⟨by kernel_rfl, ?_⟩) (by assumption) ?_
        rotate_left
        · intro w hSw; (try dsimp only at hSw); (first | (go_simp; done) | (go_simp; with_reducible rfl))
        (try simp only [Act.put, List.getElem_toArray, List.getElem_cons_succ, List.getElem_cons_zero, List.setIfInBounds_toArray, List.set_cons_succ, List.set_cons_zero])
        refine wpAnyH_take (i := 23) (v := ?_) rfl (by kernel_rfl) (by kernel_rfl) (by kernel_rfl) (fun _ _ _ h => h) (Or.inl ⟨by kernel_rfl, ?_⟩) (by assumption) ?_
        rotate_left
        · intro w hSw; (try dsimp only at hSw); (first | (go_simp; done) | (go_simp; with_reducible rfl))
        (try simp only [Act.put, List.getElem_toArray, List.getElem_cons_succ, List.getElem_cons_zero, List.setIfInBounds_toArray, List.set_cons_succ, List.set_cons_zero])
        refine wpAnyH_take (i := 24) (v := ?_) rfl (by kernel_rfl) (by kernel_rfl) (by kernel_rfl) (fun _ _ _ h => h) (Or.inl ⟨by kernel_rfl, ?_⟩) (by assumption) ?_
        rotate_left
        · intro w hSw; (try dsimp only at hSw); (first | (go_simp; done) | (go_simp; with_reducible rfl))
        (try simp only [Act.put, List.getElem_toArray, List.getElem_cons_succ, List.getElem_cons_zero, List.setIfInBounds_toArray, List.set_cons_succ, List.set_cons_zero])
        refine wpAnyH_ready (rs := [25]) (by kernel_rfl) (by simp) ?_
        refine AllReadyH.cons (i := 25) rfl (fun K hK => ?_) AllReadyH.nil
        (try dsimp (config := { proj := false }) only [List.getElem_toArray, List.getElem_cons_succ, List.getElem_cons_zero])
        go_simp
        refine (HLEG.out _ ?_).mono ?_
        · (repeat (first | exact Mod.refl _ _ | refine Mod.drew ?_))
        rintro e w7 ⟨rfl, m7⟩
        have k0' := cell_kept k0 m7 (World.block_lt_of_cell? _ _ k0) (not_nil _)
        have k1' := cell_kept k1 m7 (World.block_lt_of_cell? _ _ k1) (not_nil _)
        have k2' := cell_kept k2 m7 (World.block_lt_of_cell? _ _ k2) (not_nil _)
        have k3' := cell_kept k3 m7 (World.block_lt_of_cell? _ _ k3) (not_nil _)
        refine hK.out _ _ ⟨k0', k1', k2', k3'⟩ (fun hHeld => ?_)
        clear hK K
        (try simp only [Act.put, List.setIfInBounds_toArray, List.set_cons_zero, List.set_cons_succ])
        (try simp only [List.set_cons_succ, List.set_cons_zero])
        refine wpAnyH_take (i := 26) (v := ?_) rfl (by kernel_rfl) (by kernel_rfl) (by kernel_rfl) (fun _ _ _ h => h) (Or.inl ⟨by kernel_rfl, ?_⟩) (by assumption) ?_
        rotate_left
        · intro w hSw; (try dsimp only at hSw); (first | (go_simp; done) | (go_simp; with_reducible rfl))
        (try simp only [Act.put, List.getElem_toArray, List.getElem_cons_succ, List.getElem_cons_zero, List.setIfInBounds_toArray, List.set_cons_succ, List.set_cons_zero])
        refine wpAnyH_take (i := 27) (v := ?_) rfl (by kernel_rfl) (by kernel_rfl) (by kernel_rfl) (fun _ _ _ h => h) (Or.inl ⟨by kernel_rfl, ?_⟩) (by assumption) ?_
        rotate_left
        · intro w hSw; (try dsimp only at hSw); (first | (go_simp; done) | (go_simp; with_reducible rfl))
        (try simp only [Act.put, List.getElem_toArray, List.getElem_cons_succ, List.getElem_cons_zero, List.setIfInBounds_toArray, List.set_cons_succ, List.set_cons_zero])
        refine wpAnyH_done (by kernel_rfl) ?_ _
        have HTN : Hid (q = true → ((0 ≤ deal ∧ deal ≤ 65535) ∧ (2 ≤ (np : Int) ∧ (np : Int) ≤ 16) ∧ nl = np ∧ tickN start ∧ timesN eps wait) ∧ (∀ x ∈ ps.take (i + 1), 0 ≤ x ∧ x < 16) ∧ (ps.take (i + 1)).Nodup ∧ (ls.take (i + 1)).all legB = true) := Lib.hid (fun h => by
          obtain ⟨z1, z2, z3, z4⟩ := HHX.out
          refine ⟨z1, ?_, ?_, ?_⟩
          · rw [HTP.out]
            intro y hy
            rcases List.mem_append.1 hy with hy | hy
            · exact z2 y hy
            · rw [List.mem_singleton.1 hy]; have := hxx.out; omega
          · rw [HTP.out]
            exact List.nodup_append.2 ⟨z3, by simp, fun a ha b hb => by rw [List.mem_singleton.1 hb]; exact fun e => HX2.out (e ▸ ha)⟩
          · rw [HTL.out, List.all_append, z4, List.all_cons, HQ.out, h]; rfl)
        have HFN : Hid (q = false → ¬ mayN deal ps ls start eps wait) := Lib.hid (fun h hm => by
          have h2 := List.all_eq_true.1 hm.2.2.2.2.1 l HLM.out
          rw [HQ.out, h] at h2
          cases h2)
        have HX7 := Lib.hid (HX.out.thenNil m7)
        clear k0 k1 k2 k3 k0' k1' k2' k3' hsl m7
        go_wp2_with fail
        exact ⟨⟨i + 1, q, rfl, by go_num, by omega, HTN, HFN, HX7⟩, by simp [intOf]; omega⟩
      · obtain rfl : np = i := by omega
        obtain ⟨wa, rfl⟩ : ∃ x, x = wr := ⟨_, rfl⟩
        have hmay : mayN deal ps ls start eps wait := by
          obtain ⟨⟨⟨o1, o1'⟩, ⟨o2, o2'⟩, o3, o4, o5⟩, q1, q2, q3⟩ := HT.out rfl
          rw [List.take_of_length_le (by rw [HPL.out]; exact Nat.le_refl _)] at q1 q2
          rw [List.take_of_length_le (by rw [HLL.out]; omega)] at q3
          exact ⟨o1, o1', ⟨by rw [HPL.out]; omega, by rw [HPL.out]; omega, q1, q2⟩, by rw [HPL.out, HLL.out, o3], q3, o4, o5⟩
        have hnl : nl = np := (HT.out rfl).1.2.2.1
        have hb16 : 2 ≤ np ∧ np ≤ 16 := by have := (HT.out rfl).1.2.1; omega
        subst hnl
        obtain ⟨m1, m2, -, -, -, ⟨s1, s2⟩, ht⟩ := id hmay
        obtain ⟨t1, t2, t3, t4⟩ := id ht
        have HMAY := Lib.hid hmay
        obtain ⟨gg, hgg⟩ : ∃ x, gapN eps wait = x := ⟨_, rfl⟩
        have hggb : 0 ≤ gg ∧ gg ≤ 100000 := by rw [← hgg, show gapN eps wait = 2 * eps + 2 * wait + 2 from if_pos ht]; omega
        have HGG := Lib.hid hgg
        have HGAPC : Hid (∀ W, Calls Tryz.prog 149 #[.int .i64 eps, .int .i64 wait] W fun e w' => e = .returned (.int .i64 gg) ∧ w' = W) := Lib.hid (fun W => by rw [← hgg]; exact refGap eps wait W)
        have k0 := HR0.out wa HX.out
        have HCI := Lib.hid (refCopyInts _ pp nl cp ps wa (HP.out.modNil (HN0.out wa HX.out)) HPL.out (by omega))
        clear hmay hgg ht HT HF hi hlt
        go_wp2_with fail
        refine HCI.out.mono ?_
        rintro e wb ⟨p1, c1, rfl, hv, mb⟩
        have HXb := Lib.hid (HX.out.thenNil mb)
        have hsa := HX.out.size
        have hsb := mb.size
        clear HX mb HCI k0
        go_upto_region 10 with (fail)
        obtain ⟨pb, hpb⟩ : ∃ x, wb.heap.size = x := ⟨_, rfl⟩
        (try rw [hpb])
        generalize hwc : World.alloc wb _ = wc
        have mc : Mod nil wb wc := by rw [← hwc]; exact (Mod.refl _ _).alloc _
        have HB : Hid (wc.heap[pb]? = some (.cells #[.int .i64 deal, .slice p1 nl c1, .slice none 0 0, .string ⟨hash.toArray⟩, .int .i64 start, .int .i64 eps, .int .i64 wait, .slice none 0 0] 25 (0, 0))) := Lib.hid (by rw [← hwc, ← hpb]; exact heap_alloc_new _ _)
        have HV : Hid (IsVec (fun k => G < k ∧ k < pb) wc 3 1 (.slice p1 nl c1) nl (ps.map (.int .i64))) := Lib.hid ((hv.mono (fun k hk h => ⟨by have h : wa.heap.size ≤ k := h; omega, by omega⟩)).modNil mc)
        have HX := Lib.hid (HXb.out.thenNil mc)
        have hGp : G < pb := by omega
        clear hwc mc hv HXb hsa hsb hpb
        have hprod : 0 ≤ (2 * (nl : Int) + 3) * (wait + 1) := Int.mul_nonneg (by omega) (by omega)
        have hprod2 : (2 * (nl : Int) + 3) * (wait + 1) ≤ 35 * (wait + 1) := Int.mul_le_mul_of_nonneg_right (by omega) (by omega)
        obtain ⟨q1, hq1⟩ : ∃ x, 2 * (nl : Int) = x := ⟨_, rfl⟩
        obtain ⟨q2, hq2⟩ : ∃ x, q1 + 3 = x := ⟨_, rfl⟩
        obtain ⟨q3, hq3⟩ : ∃ x, wait + 1 = x := ⟨_, rfl⟩
        rw [hq1, hq2, hq3] at hprod hprod2
        obtain ⟨q4, hq4⟩ : ∃ x, q2 * q3 = x := ⟨_, rfl⟩
        rw [hq4] at hprod hprod2
        obtain ⟨q5, hq5⟩ : ∃ x, start + q4 = x := ⟨_, rfl⟩
        obtain ⟨q6, hq6⟩ : ∃ x, 4 * eps = x := ⟨_, rfl⟩
        obtain ⟨top, htop⟩ : ∃ x, q5 + q6 = x := ⟨_, rfl⟩
        have g1 : IntKind.i64.wrap (2 * (nl : Int)) = q1 := by rw [hq1, IntKind.wrap_i64]; omega
        have g2 : IntKind.i64.wrap (q1 + 3) = q2 := by rw [hq2, IntKind.wrap_i64]; omega
        have g3 : IntKind.i64.wrap (wait + 1) = q3 := by rw [hq3, IntKind.wrap_i64]; omega
        have g4 : IntKind.i64.wrap (q2 * q3) = q4 := by rw [hq4, IntKind.wrap_i64]; omega
        have g5 : IntKind.i64.wrap (start + q4) = q5 := by rw [hq5, IntKind.wrap_i64]; omega
        have g6 : IntKind.i64.wrap (4 * eps) = q6 := by rw [hq6, IntKind.wrap_i64]; omega
        have g7 : IntKind.i64.wrap (q5 + q6) = top := by rw [htop, IntKind.wrap_i64]; omega
        have HTOP : Hid (ladTop nl start eps wait = top) := Lib.hid (by unfold ladTop; rw [hq1, hq2, hq3, hq4, hq6]; omega)
        have htopb : 0 ≤ top ∧ top ≤ 1099511800000 := by omega
        obtain ⟨K, hK⟩ : ∃ K, nl - 1 = K := ⟨_, rfl⟩
        have hKn : nl = K + 1 := by omega
        have HKN := Lib.hid hKn
        clear hprod hprod2 hq1 hq2 hq3 hq4 hq5 hq6 htop hK hKn
        have hkk : K < nl := by have := HKN.out; omega
        go_upto_region 11 with (fail)
        clear g1 g2 g3 g4 g5 g6 g7
        go_wp2_with fail
        go_loopw [19] (fun v wr => ∃ (i : Nat) (ql : Option Addr) (cq : Nat) (qd : Option Addr) (cd : Nat) (SL SD : Nat → Prop), v = .int .i64 i ∧ i ≤ nl ∧ Hid (∀ k, SL k → pb < k) ∧ Hid (∀ k, SD k → pb < k) ∧ Hid (∀ k, SL k → SD k → False) ∧ Hid (wr.heap[pb]? = some (.cells #[.int .i64 deal, .slice p1 nl c1, .slice ql i cq, .string ⟨hash.toArray⟩, .int .i64 start, .int .i64 eps, .int .i64 wait, .slice qd i cd] 25 (0, 0))) ∧ Hid (IsVec (fun k => G < k ∧ k < pb) wr 3 1 (.slice p1 nl c1) nl (ps.map (.int .i64))) ∧ Hid (IsLegsV SL wr (.slice ql i cq) i (ls.take i)) ∧ Hid (IsVec SD wr 3 1 (.slice qd i cd) i (((List.range i).map (ladAt nl top gg)).map (.int .i64))) ∧ Hid (Mod (fun k => G < k) w1 wr)) (fun v _ => nl - (intOf v).toNat)
        case atStart => exact ⟨0, none, 0, none, 0, fun _ => False, fun _ => False, rfl, by omega, Lib.hid (fun _ h => h.elim), Lib.hid (fun _ h => h.elim), Lib.hid (fun _ h _ => h), HB, HV, Lib.hid (IsLegsV.nil _ _), Lib.hid (IsVec.nil _ _ _ _), HX⟩
        case round =>
          clear HB HV HX
          obtain ⟨i, ql, cq, qd, cd, SL, SD, rfl, hi, HSL, HSD, HDJ, HB, HV, HL, HD, HX⟩ := hrel
          have hpbl := heap_lt HB.out
          by_cases hlt : i < nl
          · have hil : i < ls.length := by rw [HLL.out]; exact hlt
            obtain ⟨gl, ol, x, rfl, -, hgw, k3, hits⟩ := HL0.out.at i hil
            obtain ⟨l, hll⟩ : ∃ l, ls[i] = l := ⟨_, rfl⟩
            rw [hll] at hits
            have HTK : Hid (ls.take (i + 1) = ls.take i ++ [l]) := Lib.hid (by rw [List.take_succ_eq_append_getElem hil, hll])
            have hlm := HLX.out l (by rw [← hll]; exact List.getElem_mem _)
            obtain ⟨px, cx, rfl⟩ := hits.form
            obtain ⟨n, hn⟩ : ∃ n, l.length = n := ⟨_, rfl⟩
            rw [hn] at k3 hits hlm
            have HLN := Lib.hid hn
            have HITS := Lib.hid hits
            have k3w := cell_kept k3 (HN0.out wr HX.out) hgw (not_nil _)
            have k1 := HR1.out wr HX.out
            have c2 := cell_of HB.out 2
            simp only [List.getElem?_toArray, List.getElem?_cons_zero, List.getElem?_cons_succ] at c2
            clear hll hn hits k3
            have k3 := k3w
            clear k3w
            have HK14 : Hid (∀ W, Mod nil wr W → W.cell? ⟨pb, 2, none⟩ = some (.slice ql i cq) ∧ W.cell? ⟨r, 1, none⟩ = some (.slice (some ⟨gl, ol, none⟩) nl cl) ∧ W.cell? ⟨gl, ol + i, none⟩ = some (.slice px n cx)) := Lib.hid (fun W m => ⟨cell_kept c2 m (World.block_lt_of_cell? _ _ c2) (not_nil _), cell_kept k1 m (World.block_lt_of_cell? _ _ k1) (not_nil _), cell_kept k3 m (World.block_lt_of_cell? _ _ k3) (not_nil _)⟩)
            have HK14B : Hid (∀ W, Mod SL wr W → W.cell? ⟨pb, 2, none⟩ = some (.slice ql i cq) ∧ W.cell? ⟨r, 1, none⟩ = some (.slice (some ⟨gl, ol, none⟩) nl cl) ∧ W.cell? ⟨gl, ol + i, none⟩ = some (.slice px n cx)) := Lib.hid (fun W m => ⟨cell_kept c2 m (World.block_lt_of_cell? _ _ c2) (fun h => by have := HSL.out pb h; omega), cell_kept k1 m (World.block_lt_of_cell? _ _ k1) (fun h => by have := HSL.out r h; omega), cell_kept k3 m (World.block_lt_of_cell? _ _ k3) (fun h => by have := HSL.out gl h; have := HGE.out; omega)⟩)
            go_upto_region 14 with (fail)
            refine region_till (fun w' => w'.cell? ⟨pb, 2, none⟩ = some (.slice ql i cq) ∧ w'.cell? ⟨r, 1, none⟩ = some (.slice (some ⟨gl, ol, none⟩) nl cl) ∧ w'.cell? ⟨gl, ol + i, none⟩ = some (.slice px n cx)) 12 (by kernel_rfl) ?_
            refine till_free (i := 0) (v := ?_) rfl (by kernel_rfl) (by kernel_rfl) (by kernel_rfl) (by kernel_rfl) (fun _ _ _ h => h) (Or.inl ⟨by kernel_rfl, ?_⟩) (fun _ => ⟨c2, k1, k3⟩) ?_
            rotate_left
            · intro w _; (first | (go_simp; done) | (go_simp; with_reducible rfl))
            (try simp only [Act.put]); (try simp only [List.setIfInBounds_toArray])
            refine till_take (i := 1) (v := ?_) rfl (by kernel_rfl) (by kernel_rfl) (by kernel_rfl) (by kernel_rfl) (by kernel_rfl) (by kernel_rfl) (fun _ _ _ h => h) (Or.inl ⟨by kernel_rfl, ?_⟩) (⟨c2, k1, k3⟩) ?_
            rotate_left
            · intro w hSw; (try dsimp only at hSw); (first | (go_simp; done) | (go_simp; with_reducible rfl))
            (try simp only [Act.put]); (try simp only [List.setIfInBounds_toArray])
            refine till_free (i := 3) (v := ?_) rfl (by kernel_rfl) (by kernel_rfl) (by kernel_rfl) (by kernel_rfl) (fun _ _ _ h => h) (Or.inl ⟨by kernel_rfl, ?_⟩) (fun _ => ⟨c2, k1, k3⟩) ?_
            rotate_left
            · intro w _; (first | (go_simp; done) | (go_simp; with_reducible rfl))
            (try simp only [Act.put]); (try simp only [List.setIfInBounds_toArray])
            refine till_take (i := 4) (v := ?_) rfl (by kernel_rfl) (by kernel_rfl) (by kernel_rfl) (by kernel_rfl) (by kernel_rfl) (by kernel_rfl) (fun _ _ _ h => h) (Or.inl ⟨by kernel_rfl, ?_⟩) (⟨c2, k1, k3⟩) ?_
            rotate_left
            · intro w hSw; (try dsimp only at hSw); (first | (go_simp; done) | (go_simp; with_reducible rfl))
            (try simp only [Act.put]); (try simp only [List.setIfInBounds_toArray])
            refine till_free (i := 5) (v := ?_) rfl (by kernel_rfl) (by kernel_rfl) (by kernel_rfl) (by kernel_rfl) (fun _ _ _ h => h) (Or.inl ⟨by kernel_rfl, ?_⟩) (fun _ => ⟨c2, k1, k3⟩) ?_
            rotate_left
            · intro w _; (first | (go_simp; done) | (go_simp; with_reducible rfl))
            (try simp only [Act.put]); (try simp only [List.setIfInBounds_toArray])
            refine till_free (i := 6) (v := ?_) rfl (by kernel_rfl) (by kernel_rfl) (by kernel_rfl) (by kernel_rfl) (fun _ _ _ h => h) (Or.inl ⟨by kernel_rfl, ?_⟩) (fun _ => ⟨c2, k1, k3⟩) ?_
            rotate_left
            · intro w _; (first | (go_simp; done) | (go_simp; with_reducible rfl))
            (try simp only [Act.put]); (try simp only [List.setIfInBounds_toArray])
            refine till_take (i := 7) (v := ?_) rfl (by kernel_rfl) (by kernel_rfl) (by kernel_rfl) (by kernel_rfl) (by kernel_rfl) (by kernel_rfl) (fun _ _ _ h => h) (Or.inl ⟨by kernel_rfl, ?_⟩) (⟨c2, k1, k3⟩) ?_
            rotate_left
            · intro w hSw; (try dsimp only at hSw); (first | (go_simp; done) | (go_simp; with_reducible rfl))
            (try simp only [Act.put]); (try simp only [List.setIfInBounds_toArray])
            refine till_ready (rs := [2]) (by kernel_rfl) (by simp) ?_
            refine till_cons (i := 2) rfl (fun K hK => ?_) till_nil
            (try dsimp (config := { proj := false }) only [List.getElem_toArray, List.getElem_cons_succ, List.getElem_cons_zero])
            go_simp
            have ma : Mod nil wr (wr.alloc (.cells #[] 135)).drew := ((Mod.refl nil wr).alloc _).drew
            have hve : IsVec (fun k => wr.heap.size ≤ k) (wr.alloc (.cells #[] 135)).drew 135 3 (.slice (some ⟨wr.heap.size, 0, none⟩) 0 0) 0 [] := vec_empty wr.drew _ _
            generalize hwa : World.drew (World.alloc wr _) = wa at ma hve ⊢
            obtain ⟨ga, hga⟩ : ∃ g, wr.heap.size = g := ⟨_, rfl⟩
            rw [hga] at hve
            (try rw [hga])
            have c2' := cell_kept c2 ma (World.block_lt_of_cell? _ _ c2) (not_nil _)
            clear c2
            have c2 := c2'
            clear c2'
            have k1' := cell_kept k1 ma (World.block_lt_of_cell? _ _ k1) (not_nil _)
            clear k1
            have k1 := k1'
            clear k1'
            have k3' := cell_kept k3 ma (World.block_lt_of_cell? _ _ k3) (not_nil _)
            clear k3
            have k3 := k3'
            clear k3'
            refine hK.out _ _ (fun _ => ⟨c2, k1, k3⟩) ?_
            clear hK K
            (try simp only [Act.put, List.setIfInBounds_toArray, List.set_cons_zero, List.set_cons_succ])
            refine till_ready (rs := [8]) (by kernel_rfl) (by simp) ?_
            refine till_cons (i := 8) rfl (fun K hK => ?_) till_nil
            (try dsimp (config := { proj := false }) only [List.getElem_toArray, List.getElem_cons_succ, List.getElem_cons_zero])
            obtain ⟨i0, hi0, hz0, hz1, hz2⟩ := info_parts info_item3
            have hic : IsCells (· < w.heap.size) wa (.slice px n cx) n (its l) := by
              have h := HITS.out.modNil ((HN0.out wr HX.out).thenNil ma)
              unfold IsIts at h
              rw [HLN.out] at h
              exact h
            refine step_append_vec (S := fun k => ga ≤ k) rfl _ _ _ rfl 135 i0 _ 3 24 Tryz.underlying133 hi0 hz0 hz1 hz2 rfl (by omega) _ 0 [] rfl hve _ n (its l) rfl hic (by rw [its_length, HLN.out]) (its_one l) (by unfold maxLen; omega) (by omega) ?_
            intro v8 w8 hv8 m8
            rw [Nat.zero_add, List.nil_append] at hv8
            obtain ⟨p8, q8, rfl⟩ := hv8.form
            have M8 : Mod nil wr w8 := ma.new m8 (fun k h => by have h : ga ≤ k := h; omega)
            clear c2 k1 k3
            obtain ⟨c2, k1, k3⟩ := HK14.out w8 M8
            refine hK.out _ _ (fun _ => ⟨c2, k1, k3⟩) ?_
            clear hK K
            (try simp only [Act.put, List.setIfInBounds_toArray, List.set_cons_zero, List.set_cons_succ])
            refine till_ready (rs := [9]) (by kernel_rfl) (by simp) ?_
            refine till_cons (i := 9) rfl (fun K hK => ?_) till_nil
            (try dsimp (config := { proj := false }) only [List.getElem_toArray, List.getElem_cons_succ, List.getElem_cons_zero])
            go_simp
            have hx8 : IsIts (fun k => ga ≤ k) w8 (.slice p8 n q8) l := by
              have h := hv8.cells
              rw [← HLN.out] at h ⊢
              exact IsIts.mono (show IsIts _ w8 (.slice p8 l.length q8) l from h) (fun k _ h => h.elim id (fun h => by have := ma.size; omega))
            obtain ⟨v10, w10, hrun, hv10, m10, -⟩ := legs_append (S := fun k => SL k ∨ ga ≤ k) (R := fun k => ga ≤ k) (g := w8.heap.size) 23 ((HL.out.modNil M8).mono (fun k _ h => .inl h)) hx8 (fun k hk => ⟨.inr hk, fun ho => by have := (HL.out.own ho).2; omega⟩) rfl (by omega)
            obtain ⟨p10, q10, rfl⟩ := hv10.form
            have hms : Mod nil w8 (w8.alloc (.cells #[.slice p8 n q8] 133)) := (Mod.refl nil w8).alloc _
            have c2' := cell_kept c2 hms (World.block_lt_of_cell? _ _ c2) (not_nil _)
            clear c2
            have c2 := c2'
            clear c2'
            have k1' := cell_kept k1 hms (World.block_lt_of_cell? _ _ k1) (not_nil _)
            clear k1
            have k1 := k1'
            clear k1'
            have k3' := cell_kept k3 hms (World.block_lt_of_cell? _ _ k3) (not_nil _)
            clear k3
            have k3 := k3'
            clear k3'
            refine hK.out _ _ (fun _ => ⟨c2, k1, k3⟩) ?_
            clear hK K
            (try simp only [Act.put, List.setIfInBounds_toArray, List.set_cons_zero, List.set_cons_succ])
            refine till_ready (rs := [10]) (by kernel_rfl) (by simp) ?_
            refine till_cons (i := 10) rfl (fun K hK => ?_) till_nil
            (try dsimp (config := { proj := false }) only [List.getElem_toArray, List.getElem_cons_succ, List.getElem_cons_zero])
            refine step_append_run rfl _ _ _ _ rfl rfl rfl hrun ?_
            have M10 : Mod SL wr w10 := (M8.ofNil).trans m10 (fun k _ ho => (HL.out.own ho).1)
            clear c2 k1 k3
            obtain ⟨c2, k1, k3⟩ := HK14B.out w10 M10
            have z2 := free_of ((M10.block pb hpbl (fun h => by have := HSL.out pb h; omega)).trans HB.out) 2
            refine hK.out _ _ (fun _ => ⟨c2, k1, k3⟩) ?_
            clear hK K
            (try simp only [Act.put, List.setIfInBounds_toArray, List.set_cons_zero, List.set_cons_succ])
            refine till_free (i := 11) (v := ?_) rfl (by kernel_rfl) (by kernel_rfl) (by kernel_rfl) (by kernel_rfl) (fun _ _ _ h => h) (Or.inl ⟨by kernel_rfl, ?_⟩) (fun _ => ⟨c2, k1, k3⟩) ?_
            rotate_left
            · intro w _; (first | (go_simp; done) | (go_simp; with_reducible rfl))
            (try simp only [Act.put]); (try simp only [List.setIfInBounds_toArray])
            refine till_ready (rs := [12]) (by kernel_rfl) (by simp) ?_
            refine till_cons (i := 12) rfl (fun K hK => ?_) till_nil
            (try dsimp (config := { proj := false }) only [List.getElem_toArray, List.getElem_cons_succ, List.getElem_cons_zero])
            go_simp
            refine hK.out _ _ (fun h => (by simp at h)) ?_
            clear hK K
            (try simp only [Act.put, List.setIfInBounds_toArray, List.set_cons_zero, List.set_cons_succ])
            refine till_done (by kernel_rfl) ?_ _
            clear c2 k1 k3 z2
            generalize hw11 : World.setCell w10 _ _ = w11
            have m11 : Mod (· = pb) w10 w11 := by rw [← hw11]; exact (Mod.refl (· = pb) w10).setCell _ _ (fun _ => rfl)
            have hga2 : ga ≤ wr.heap.size := by omega
            have HB10 := Lib.hid ((M10.block pb hpbl (fun h => by have := HSL.out pb h; omega)).trans HB.out)
            have HB11 : Hid (w11.heap[pb]? = some (.cells #[.int .i64 deal, .slice p1 nl c1, .slice p10 (i + 1) q10, .string ⟨hash.toArray⟩, .int .i64 start, .int .i64 eps, .int .i64 wait, .slice qd i cd] 25 (0, 0))) := Lib.hid (by rw [← hw11]; exact heap_setCell_same HB10.out _ (off := 2))
            have HV11 := Lib.hid ((HV.out.mod M10 (fun k _ h h2 => by have := h.2; have := HSL.out k h2; omega)).mod m11 (fun k _ h (e : k = pb) => by have := h.2; omega))
            have HL11 : Hid (IsLegsV (fun k => (SL k ∨ wr.heap.size ≤ k) ∧ k < w11.heap.size) w11 (.slice p10 (i + 1) q10) (i + 1) (ls.take (i + 1))) := Lib.hid (by
              rw [HTK.out]
              have h := (hv10.mod m11 (fun k _ h (e : k = pb) => by
                rcases h with (h | h) | h
                · have := HSL.out k h; omega
                · omega
                · have := M8.size; omega))
              exact h.mono (fun k hk h => ⟨by
                rcases h with (h | h) | h
                · exact .inl h
                · exact .inr (by omega)
                · exact .inr (by have := M8.size; omega), hk⟩))
            have HD11 : Hid (IsVec (fun k => SD k ∧ k < wr.heap.size) w11 3 1 (.slice qd i cd) i (((List.range i).map (ladAt nl top gg)).map (.int .i64))) := Lib.hid (((HD.out.mono (fun k hk h => ⟨h, hk⟩)).mod M10 (fun k _ h h2 => HDJ.out k h2 h.1)).mod m11 (fun k _ h (e : k = pb) => by have := HSD.out k h.1; omega))
            have HX11 := Lib.hid ((HX.out.trans M10 (fun k _ h => by have := HSL.out k h; show G < k; omega)).trans m11 (fun k _ (e : k = pb) => by show G < k; omega))
            have hs11 : wr.heap.size ≤ w11.heap.size := Nat.le_trans M10.size m11.size
            clear hw11 HB10 HB HV HL HX m11 M10 m10 hv10 hrun M8 m8 hv8 hx8 hms ma hve HK14 HK14B hga
            have HD := HD11
            obtain ⟨SD2, hSD2⟩ : ∃ S : Nat → Prop, S = (fun k => SD k ∧ k < wr.heap.size) := ⟨_, rfl⟩
            rw [← hSD2] at HD
            have HSD2 : Hid (∀ k, SD2 k → pb < k) := Lib.hid (fun k h => by rw [hSD2] at h; exact HSD.out k h.1)
            have HSDD := Lib.hid hSD2
            clear hSD2 HD11
            have c7 := cell_of HB11.out 7
            simp only [List.getElem?_toArray, List.getElem?_cons_zero, List.getElem?_cons_succ] at c7
            obtain ⟨d, hd⟩ : ∃ d, nl - 1 - i = d := ⟨_, rfl⟩
            have hdg1 : 0 ≤ (d : Int) * gg := Int.mul_nonneg (by have := HKN.out; omega) hggb.1
            have hdg2 : (d : Int) * gg ≤ 16 * gg := Int.mul_le_mul_of_nonneg_right (by have := HKN.out; omega) hggb.1
            obtain ⟨dg, hdg⟩ : ∃ x, (d : Int) * gg = x := ⟨_, rfl⟩
            rw [hdg] at hdg1 hdg2
            obtain ⟨y, hy⟩ : ∃ x, top + dg = x := ⟨_, rfl⟩
            have hkn2 := HKN.out
            have f1 : IntKind.i64.wrap ((nl : Int) - 1) = (K : Int) := by rw [IntKind.wrap_i64]; omega
            have f2 : IntKind.i64.wrap ((K : Int) - (i : Int)) = (d : Int) := by rw [IntKind.wrap_i64]; omega
            have f3 : IntKind.i64.wrap ((d : Int) * gg) = dg := by rw [hdg, IntKind.wrap_i64]; omega
            have f4 : IntKind.i64.wrap (top + dg) = y := by rw [hy, IntKind.wrap_i64]; omega
            have HYV : Hid (ladAt nl top gg i = y) := Lib.hid (by unfold ladAt; rw [hd, hdg, hy])
            clear hd hdg1 hdg2 hdg hy hkn2
            go_upto_region 15 with (fail)
            refine region_till (fun w' => w'.cell? ⟨pb, 7, none⟩ = some (.slice qd i cd)) 15 (by kernel_rfl) ?_
            refine till_free (i := 0) (v := ?_) rfl (by kernel_rfl) (by kernel_rfl) (by kernel_rfl) (by kernel_rfl) (fun _ _ _ h => h) (Or.inl ⟨by kernel_rfl, ?_⟩) (fun _ => c7) ?_
            rotate_left
            · intro w _; (first | (go_simp; done) | (go_simp; with_reducible rfl))
            (try simp only [Act.put]); (try simp only [List.setIfInBounds_toArray])
            refine till_take (i := 1) (v := ?_) rfl (by kernel_rfl) (by kernel_rfl) (by kernel_rfl) (by kernel_rfl) (by kernel_rfl) (by kernel_rfl) (fun _ _ _ h => h) (Or.inl ⟨by kernel_rfl, ?_⟩) (c7) ?_
            rotate_left
            · intro w hSw; (try dsimp only at hSw); (first | (go_simp; done) | (go_simp; with_reducible rfl))
            (try simp only [Act.put]); (try simp only [List.setIfInBounds_toArray])
            refine till_free (i := 2) (v := ?_) rfl (by kernel_rfl) (by kernel_rfl) (by kernel_rfl) (by kernel_rfl) (fun _ _ _ h => h) (Or.inl ⟨by kernel_rfl, ?_⟩) (fun _ => c7) ?_
            rotate_left
            · intro w _; (first | (go_simp; done) | (go_simp; with_reducible rfl))
            (try simp only [Act.put]); (try simp only [List.setIfInBounds_toArray])
            refine till_free (i := 3) (v := ?_) rfl (by kernel_rfl) (by kernel_rfl) (by kernel_rfl) (by kernel_rfl) (fun _ _ _ h => h) (Or.inl ⟨by kernel_rfl, ?_⟩) (fun _ => c7) ?_
            rotate_left
            · intro w _; (first | (go_simp; done) | (go_simp; with_reducible rfl))
            (try simp only [Act.put]); (try simp only [List.setIfInBounds_toArray])
            refine till_free (i := 4) (v := ?_) rfl (by kernel_rfl) (by kernel_rfl) (by kernel_rfl) (by kernel_rfl) (fun _ _ _ h => h) (Or.inl ⟨by kernel_rfl, ?_⟩) (fun _ => c7) ?_
            rotate_left
            · intro w _; (first | (go_simp; done) | (go_simp; with_reducible rfl))
            (try simp only [Act.put]); (try simp only [List.setIfInBounds_toArray])
            refine till_free (i := 5) (v := ?_) rfl (by kernel_rfl) (by kernel_rfl) (by kernel_rfl) (by kernel_rfl) (fun _ _ _ h => h) (Or.inl ⟨by kernel_rfl, ?_⟩) (fun _ => c7) ?_
            rotate_left
            · intro w _; (first | (go_simp; done) | (go_simp; with_reducible rfl))
            (try simp only [Act.put]); (try simp only [List.setIfInBounds_toArray])
            refine till_free (i := 6) (v := ?_) rfl (by kernel_rfl) (by kernel_rfl) (by kernel_rfl) (by kernel_rfl) (fun _ _ _ h => h) (Or.inl ⟨by kernel_rfl, ?_⟩) (fun _ => c7) ?_
            rotate_left
            · intro w _; (first | (go_simp; done) | (go_simp; with_reducible rfl))
            (try simp only [Act.put]); (try simp only [List.setIfInBounds_toArray])
            refine till_free (i := 7) (v := ?_) rfl (by kernel_rfl) (by kernel_rfl) (by kernel_rfl) (by kernel_rfl) (fun _ _ _ h => h) (Or.inl ⟨by kernel_rfl, ?_⟩) (fun _ => c7) ?_
            rotate_left
            · intro w _; (first | (go_simp; done) | (go_simp; with_reducible rfl))
            (try simp only [Act.put]); (try simp only [List.setIfInBounds_toArray])
            refine till_free (i := 8) (v := ?_) rfl (by kernel_rfl) (by kernel_rfl) (by kernel_rfl) (by kernel_rfl) (fun _ _ _ h => h) (Or.inl ⟨by kernel_rfl, ?_⟩) (fun _ => c7) ?_
            rotate_left
            · intro w _; (first | (go_simp; done) | (go_simp; with_reducible rfl))
            (try simp only [Act.put]); (try simp only [List.setIfInBounds_toArray])
            refine till_ready (rs := [9]) (by kernel_rfl) (by simp) ?_
            refine till_cons (i := 9) rfl (fun K hK => ?_) till_nil
            (try dsimp (config := { proj := false }) only [List.getElem_toArray, List.getElem_cons_succ, List.getElem_cons_zero])
            go_simp
            refine (HGAPC.out _).mono ?_
            rintro e w' ⟨rfl, rfl⟩
            refine hK.out _ _ (fun _ => c7) ?_
            clear hK K
            (try simp only [Act.put, List.setIfInBounds_toArray, List.set_cons_zero, List.set_cons_succ])
            refine till_free (i := 10) (v := ?_) rfl (by kernel_rfl) (by kernel_rfl) (by kernel_rfl) (by kernel_rfl) (fun _ _ _ h => h) (Or.inl ⟨by kernel_rfl, ?_⟩) (fun _ => c7) ?_
            rotate_left
            · intro w _; (first | (go_simp; done) | (go_simp; with_reducible rfl))
            (try simp only [Act.put]); (try simp only [List.setIfInBounds_toArray])
            refine till_free (i := 11) (v := ?_) rfl (by kernel_rfl) (by kernel_rfl) (by kernel_rfl) (by kernel_rfl) (fun _ _ _ h => h) (Or.inl ⟨by kernel_rfl, ?_⟩) (fun _ => c7) ?_
            rotate_left
            · intro w _; (first | (go_simp; done) | (go_simp; with_reducible rfl))
            (try simp only [Act.put]); (try simp only [List.setIfInBounds_toArray])
            refine till_ready (rs := [12]) (by kernel_rfl) (by simp) ?_
            refine till_cons (i := 12) rfl (fun K hK => ?_) till_nil
            (try dsimp (config := { proj := false }) only [List.getElem_toArray, List.getElem_cons_succ, List.getElem_cons_zero])
            go_simp
            have mb : Mod nil w11 (w11.alloc (.cells #[.int .i64 y] 3)).drew := ((Mod.refl nil w11).alloc _).drew
            have hxb : IsCells (· = w11.heap.size) (w11.alloc (.cells #[.int .i64 y] 3)).drew (.slice (some ⟨w11.heap.size, 0, none⟩) 1 1) 1 [.int .i64 y] := cells_one_at w11.drew _ _ _ rfl
            have c7b := cell_kept c7 mb (World.block_lt_of_cell? _ _ c7) (not_nil _)
            have hlb := World.block_lt_of_cell? _ _ c7
            refine hK.out _ _ (fun _ => c7b) ?_
            clear hK K
            (try simp only [Act.put, List.setIfInBounds_toArray, List.set_cons_zero, List.set_cons_succ])
            refine till_ready (rs := [13]) (by kernel_rfl) (by simp) ?_
            refine till_cons (i := 13) rfl (fun K hK => ?_) till_nil
            (try dsimp (config := { proj := false }) only [List.getElem_toArray, List.getElem_cons_succ, List.getElem_cons_zero])
            obtain ⟨i0, hi0, hz0, hz1, hz2⟩ := info_parts info_int
            refine step_append_vec (S := SD2) rfl _ _ _ rfl 3 i0 _ 1 8 Tryz.underlying22 hi0 hz0 hz1 hz2 rfl (by omega) _ i (((List.range i).map (ladAt nl top gg)).map (.int .i64)) rfl (HD.out.modNil mb) _ 1 _ rfl hxb rfl (by intro u hu; rw [List.mem_singleton.1 hu]; rfl) (by unfold maxLen; omega) (by omega) ?_
            intro v12 w12 hv12 m12
            obtain ⟨p12, q12, rfl⟩ := hv12.form
            have M12 : Mod SD2 w11 w12 := (mb.ofNil).trans m12 (fun k _ h => h)
            have c7c := cell_kept c7 M12 hlb (fun h => by have := HSD2.out pb h; omega)
            have z7 := free_of ((M12.block pb (heap_lt HB11.out) (fun h => by have := HSD2.out pb h; omega)).trans HB11.out) 7
            refine hK.out _ _ (fun _ => c7c) ?_
            clear hK K
            (try simp only [Act.put, List.setIfInBounds_toArray, List.set_cons_zero, List.set_cons_succ])
            refine till_free (i := 14) (v := ?_) rfl (by kernel_rfl) (by kernel_rfl) (by kernel_rfl) (by kernel_rfl) (fun _ _ _ h => h) (Or.inl ⟨by kernel_rfl, ?_⟩) (fun _ => c7c) ?_
            rotate_left
            · intro w _; (first | (go_simp; done) | (go_simp; with_reducible rfl))
            (try simp only [Act.put]); (try simp only [List.setIfInBounds_toArray])
            refine till_ready (rs := [15]) (by kernel_rfl) (by simp) ?_
            refine till_cons (i := 15) rfl (fun K hK => ?_) till_nil
            (try dsimp (config := { proj := false }) only [List.getElem_toArray, List.getElem_cons_succ, List.getElem_cons_zero])
            go_simp
            refine hK.out _ _ (fun h => (by simp at h)) ?_
            clear hK K
            (try simp only [Act.put, List.setIfInBounds_toArray, List.set_cons_zero, List.set_cons_succ])
            refine till_done (by kernel_rfl) ?_ _
            clear f1 f2 f3 f4 c7 c7b c7c hlb z7
            generalize hw13 : World.setCell w12 _ _ = w13
            have m13 : Mod (· = pb) w12 w13 := by rw [← hw13]; exact (Mod.refl (· = pb) w12).setCell _ _ (fun _ => rfl)
            have hpb11 := heap_lt HB11.out
            have HB12 := Lib.hid ((M12.block pb hpb11 (fun h => by have := HSD2.out pb h; omega)).trans HB11.out)
            have HB13 : Hid (w13.heap[pb]? = some (.cells #[.int .i64 deal, .slice p1 nl c1, .slice p10 (i + 1) q10, .string ⟨hash.toArray⟩, .int .i64 start, .int .i64 eps, .int .i64 wait, .slice p12 (i + 1) q12] 25 (0, 0))) := Lib.hid (by rw [← hw13]; exact heap_setCell_same HB12.out _ (off := 7))
            have HV13 := Lib.hid ((HV11.out.mod M12 (fun k _ h h2 => by have := h.2; have := HSD2.out k h2; omega)).mod m13 (fun k _ h (e : k = pb) => by have := h.2; omega))
            have HL13 := Lib.hid ((HL11.out.mod M12 (fun k _ h h2 => by
              rw [HSDD.out] at h2
              rcases h.1 with h1 | h1
              · exact HDJ.out k h1 h2.1
              · have := h2.2; omega)).mod m13 (fun k _ h (e : k = pb) => by
                rcases h.1 with h1 | h1
                · have := HSL.out k h1; omega
                · omega))
            have HD13 : Hid (IsVec (fun k => SD2 k ∨ w11.heap.size ≤ k) w13 3 1 (.slice p12 (i + 1) q12) (i + 1) (((List.range (i + 1)).map (ladAt nl top gg)).map (.int .i64))) := Lib.hid (by
              rw [List.range_succ, List.map_append, List.map_append]
              simp only [List.map_cons, List.map_nil]
              rw [HYV.out]
              exact (hv12.mono (fun k hk h => h.elim .inl (fun h => .inr (by have := mb.size; omega)))).mod m13 (fun k _ h (e : k = pb) => by
                rcases h with h | h
                · have := HSD2.out k h; omega
                · omega))
            have HX13 := Lib.hid ((HX11.out.trans M12 (fun k _ h => by have := HSD2.out k h; show G < k; omega)).trans m13 (fun k _ (e : k = pb) => by show G < k; omega))
            have HSL' : Hid (∀ k, (SL k ∨ wr.heap.size ≤ k) ∧ k < w11.heap.size → pb < k) := Lib.hid (fun k h => by
              rcases h.1 with h1 | h1
              · exact HSL.out k h1
              · omega)
            have HSD' : Hid (∀ k, SD2 k ∨ w11.heap.size ≤ k → pb < k) := Lib.hid (fun k h => by
              rcases h with h1 | h1
              · exact HSD2.out k h1
              · omega)
            have HDJ' : Hid (∀ k, (SL k ∨ wr.heap.size ≤ k) ∧ k < w11.heap.size → SD2 k ∨ w11.heap.size ≤ k → False) := Lib.hid (fun k h h2 => by
              rcases h2 with h2 | h2
              · rw [HSDD.out] at h2
                rcases h.1 with h1 | h1
                · exact HDJ.out k h1 h2.1
                · have := h2.2; omega
              · have := h.2; omega)
            clear hw13 m13 HB12 HB11 HV11 HL11 HX11 HD hv12 m12 M12 mb hxb
            go_wp2_with fail
            exact ⟨⟨i + 1, p10, q10, p12, q12, _, _, by go_num, by omega, HSL', HSD', HDJ', HB13, HV13, HL13, HD13, HX13⟩, by simp [intOf]; omega⟩
          · obtain rfl : nl = i := by omega
            have HLA : Hid (IsLegsV SL wr (.slice ql nl cq) nl ls) := Lib.hid (by
              have h := HL.out
              rw [List.take_of_length_le (by rw [HLL.out]; exact Nat.le_refl _)] at h
              exact h)
            obtain ⟨y0, hy0⟩ : ∃ y, ladAt nl top gg 0 = y := ⟨_, rfl⟩
            obtain ⟨gd, od, rfl, -, -, x0⟩ := row_int HD.out.row 0 (by simp; omega)
            have hgy : (List.map (ladAt nl top gg) (List.range nl)).getD 0 0 = y0 := by rw [← hy0]; simp [show 0 < nl by omega]
            rw [hgy, Nat.add_zero] at x0
            have h0n : 0 < nl := by omega
            have hK16 : 0 ≤ (K : Int) * gg ∧ (K : Int) * gg ≤ 16 * gg := ⟨Int.mul_nonneg (by have := HKN.out; omega) hggb.1, Int.mul_le_mul_of_nonneg_right (by have := HKN.out; omega) hggb.1⟩
            have hy0e : y0 = top + (K : Int) * gg := by rw [← hy0]; unfold ladAt; rw [show nl - 1 - 0 = K by have := HKN.out; omega]
            have HLAD : Hid (ladderN nl start eps wait = if tickN y0 then some ((List.range nl).map (ladAt nl top gg)) else none) := Lib.hid (by
              unfold ladderN
              rw [HTOP.out, HGG.out, show nl - 1 = K by have := HKN.out; omega, ← hy0e]
              by_cases h : y0 ≤ 1099511627776
              · rw [if_pos h, if_pos ⟨by omega, h⟩]
              · rw [if_neg h, if_neg (fun h2 => h h2.2)])
            have e0 := cell_of HB.out 0
            have e1 := cell_of HB.out 1
            have e2 := cell_of HB.out 2
            have e3 := cell_of HB.out 3
            have e4 := cell_of HB.out 4
            have e5 := cell_of HB.out 5
            have e6 := cell_of HB.out 6
            have e7 := cell_of HB.out 7
            simp only [List.getElem?_toArray, List.getElem?_cons_zero, List.getElem?_cons_succ] at e0 e1 e2 e3 e4 e5 e6 e7
            have HTICK := refTick y0 wr
            clear hy0 hgy hK16 hy0e HL
            by_cases htick : tickN y0
            case neg =>
              rw [decide_eq_false htick] at HTICK
              have HT := Lib.hid HTICK
              have HN := Lib.hid (show makeN deal ps ls hash start eps wait = (Pl.zero, 1) from by unfold makeN; rw [if_pos HMAY.out, HPL.out, HLAD.out, if_neg htick])
              clear htick HTICK
              go_wp2_with fail
              refine HT.out.mono ?_
              rintro e w' ⟨rfl, hw'⟩
              obtain rfl : wr = w' := hw'.symm
              clear e0 e1 e2 e3 e4 e5 e6 e7 x0
              obtain ⟨hz, hpost⟩ := HFAIL.out 1 (HN.out) wr HX.out
              have HZW := Lib.hid hz
              have HEND := Lib.hid hpost
              clear hz hpost
              go_wp2_with (refine wpList_store_row rfl _ _ _ rfl G #[.int .i64 0, .slice none 0 0, .slice none 0 0, .string ⟨#[]⟩, .int .i64 0, .int .i64 0, .int .i64 0, .slice none 0 0] rfl rfl 25 _ HZW.out info_plan rfl (by simp [Value.oneCell']) ?_)
              refine bodyPost_ret (results_cell_row2 rfl _ _ G 25 #[.int .i64 0, .slice none 0 0, .slice none 0 0, .string ⟨#[]⟩, .int .i64 0, .int .i64 0, .int .i64 0, .slice none 0 0] (0, 0) rfl (setRow_heap wr G _ #[.int .i64 0, .slice none 0 0, .slice none 0 0, .string ⟨#[]⟩, .int .i64 0, .int .i64 0, .int .i64 0, .slice none 0 0] _ _ HZW.out) Tryz.underlying25 info_plan) rfl ?_
              exact HEND.out
            rw [decide_eq_true htick] at HTICK
            have HT := Lib.hid HTICK
            have HLS := Lib.hid (show ladderN nl start eps wait = some ((List.range nl).map (ladAt nl top gg)) from by rw [HLAD.out, if_pos htick])
            clear htick HTICK HLAD
            by_cases h32 : nh = 32
            case neg =>
              have hb : ((nh : Int) != 32) = true := by simp; omega
              have HN := Lib.hid (show makeN deal ps ls hash start eps wait = (Pl.zero, 2) from by unfold makeN; rw [if_pos HMAY.out, HPL.out, HLS.out]; simp only; rw [if_neg (by rw [HNH.out]; exact h32)])
              clear h32
              go_wp2_with fail
              refine HT.out.mono ?_
              rintro e w' ⟨rfl, hw'⟩
              obtain rfl : wr = w' := hw'.symm
              clear e0 e1 e2 e3 e4 e5 e6 e7 x0
              obtain ⟨hz, hpost⟩ := HFAIL.out 2 (HN.out) wr HX.out
              have HZW := Lib.hid hz
              have HEND := Lib.hid hpost
              clear hz hpost
              go_wp2_with (refine wpList_store_row rfl _ _ _ rfl G #[.int .i64 0, .slice none 0 0, .slice none 0 0, .string ⟨#[]⟩, .int .i64 0, .int .i64 0, .int .i64 0, .slice none 0 0] rfl rfl 25 _ HZW.out info_plan rfl (by simp [Value.oneCell']) ?_)
              refine bodyPost_ret (results_cell_row2 rfl _ _ G 25 #[.int .i64 0, .slice none 0 0, .slice none 0 0, .string ⟨#[]⟩, .int .i64 0, .int .i64 0, .int .i64 0, .slice none 0 0] (0, 0) rfl (setRow_heap wr G _ #[.int .i64 0, .slice none 0 0, .slice none 0 0, .string ⟨#[]⟩, .int .i64 0, .int .i64 0, .int .i64 0, .slice none 0 0] _ _ HZW.out) Tryz.underlying25 info_plan) rfl ?_
              exact HEND.out
            have hb : ((nh : Int) != 32) = false := by simp; omega
            have HN := Lib.hid (show makeN deal ps ls hash start eps wait = (⟨deal, ps, ls, hash, start, eps, wait, (List.range nl).map (ladAt nl top gg)⟩, 0) from by unfold makeN; rw [if_pos HMAY.out, HPL.out, HLS.out]; simp only; rw [if_pos (by rw [HNH.out]; exact h32)])
            have hz := (HX.out.block G hG1 (fun h => Nat.lt_irrefl _ h)).trans HZ1.out
            have HZW := Lib.hid hz
            have hmG : Mod (· = G) wr (wr.setRow G #[.int .i64 deal, .slice p1 nl c1, .slice ql nl cq, .string ⟨hash.toArray⟩, .int .i64 start, .int .i64 eps, .int .i64 wait, .slice (some ⟨gd, od, none⟩) nl cd]) := (Mod.refl (· = G) wr).rowSet G _ (fun _ => rfl)
            have hcap : nl ≤ c1 := by
              obtain ⟨p', c', he, h1, -⟩ := HV.out.capd
              simp only [Value.slice.injEq] at he
              obtain ⟨-, -, rfl⟩ := he
              exact h1
            have HEND := Lib.hid (HPOST.out (.returned (.tuple #[.agg #[.int .i64 deal, .slice p1 nl c1, .slice ql nl cq, .string ⟨hash.toArray⟩, .int .i64 start, .int .i64 eps, .int .i64 wait, .slice (some ⟨gd, od, none⟩) nl cd], .int .i64 0])) (wr.setRow G #[.int .i64 deal, .slice p1 nl c1, .slice ql nl cq, .string ⟨hash.toArray⟩, .int .i64 start, .int .i64 eps, .int .i64 wait, .slice (some ⟨gd, od, none⟩) nl cd]) ⟨_, by rw [HN.out], by
              rw [HN.out]
              refine ⟨p1, c1, ql, cq, (some ⟨gd, od, none⟩), cd, by simp only [HPL.out, HLL.out, List.length_map, List.length_range], ?_, ?_, ?_⟩
              · simp only [HPL.out]; exact (HV.out.row.mod hmG (fun k _ h (e : k = G) => by have := h.1; omega)).mono (fun k _ h => by have := h.1; have := HGE.out; show w.heap.size ≤ k; omega)
              · simp only [HLL.out]; exact (HLA.out.legs.mod hmG (fun k _ h (e : k = G) => by have := HSL.out k h; omega)).mono (fun k _ h => by have := HSL.out k h; have := HGE.out; show w.heap.size ≤ k; omega)
              · simp only [List.length_map, List.length_range]; exact (HD.out.row.mod hmG (fun k _ h (e : k = G) => by have := HSD.out k h; omega)).mono (fun k _ h => by have := HSD.out k h; have := HGE.out; show w.heap.size ≤ k; omega), by
              rw [HN.out]
              exact ⟨.int .i64 deal, p1, c1, ql, cq, .string ⟨hash.toArray⟩, .int .i64 start, .int .i64 eps, .int .i64 wait, (some ⟨gd, od, none⟩), cd, by simp only [HPL.out, HLL.out, List.length_map, List.length_range], by simp only [HPL.out]; exact hcap⟩, (HN0.out wr HX.out).trans hmG (fun k hk e => by have := HGE.out; have e : k = G := e; omega)⟩)
            clear h32 hz hmG hcap HN
            go_wp2_with fail
            refine HT.out.mono ?_
            rintro e w' ⟨rfl, hw'⟩
            obtain rfl : wr = w' := hw'.symm
            go_wp2_with (refine wpList_store_row rfl _ _ _ rfl G #[.int .i64 deal, .slice p1 nl c1, .slice ql nl cq, .string ⟨hash.toArray⟩, .int .i64 start, .int .i64 eps, .int .i64 wait, .slice (some ⟨gd, od, none⟩) nl cd] rfl rfl 25 _ HZW.out info_plan rfl (by simp [Value.oneCell']) ?_)
            refine bodyPost_ret (results_cell_row2 rfl _ _ G 25 #[.int .i64 deal, .slice p1 nl c1, .slice ql nl cq, .string ⟨hash.toArray⟩, .int .i64 start, .int .i64 eps, .int .i64 wait, .slice (some ⟨gd, od, none⟩) nl cd] (0, 0) rfl (setRow_heap wr G _ #[.int .i64 deal, .slice p1 nl c1, .slice ql nl cq, .string ⟨hash.toArray⟩, .int .i64 start, .int .i64 eps, .int .i64 wait, .slice (some ⟨gd, od, none⟩) nl cd] _ _ HZW.out) Tryz.underlying25 info_plan) rfl ?_
            exact HEND.out


end Go.Proofs.YtdfpmlfdmhlhcaaGreat
