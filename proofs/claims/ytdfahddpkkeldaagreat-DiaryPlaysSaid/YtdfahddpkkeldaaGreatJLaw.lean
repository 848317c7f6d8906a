/- Package journal: follows. -/
import Derived.Deep.LoopGhost
import Derived.Test.YtdfahddpkkeldaaGreatShort
import Derived.Test.YtdfahddpkkeldaaGreatJournalC
import Derived.Test.YtdfahddpkkeldaaGreatCut
import Derived.Test.YtdfahddpkkeldaaGreatJLaysB
import Derived.Test.YtdfahddpkkeldaaGreatJPlain
import Derived.Test.YtdfahddpkkeldaaGreatRefLists
set_option linter.unusedSimpArgs false
set_option linter.unusedVariables false
namespace Go.Proofs.YtdfahddpkkeldaaGreat
open Go.RowKit
/-- what Get tells, in one form -/
def GotR (b : List UInt8) (kind gen seq : Nat) (pq : Option Addr) (lq cq n : Nat) (er : Int) (w w' : World) : Prop :=
 (getF b = none ∧ er = 2) ∨ (∃ body, getF b = some (kind, gen, seq, body) ∧ er = 0 ∧ n = sectorsF body.length ∧ lq = body.length ∧ IsVec (fun k => w.heap.size ≤ k) w' 5 1 (.slice pq lq cq) lq (bys body))
theorem GotR.mod {b : List UInt8} {kind gen seq : Nat} {pq : Option Addr} {lq cq n : Nat} {er : Int} {w0 w w' w2 : World} {T : Nat → Prop} (h : GotR b kind gen seq pq lq cq n er w w') (m : Mod T w' w2) (hs : ∀ k, k < w'.heap.size → w.heap.size ≤ k → ¬ T k) (hw : w0.heap.size ≤ w.heap.size) : GotR b kind gen seq pq lq cq n er w0 w2 := by
 rcases h with ⟨h1, h2⟩ | ⟨body, h1, h2, h3, h4, h5⟩
 ·exact .inl ⟨h1, h2⟩
 ·exact .inr ⟨body, h1, h2, h3, h4, (h5.mod m hs).mono (fun k _ h => Nat.le_trans hw h)⟩
theorem frameGet1 (tb : Nat) (T : Nat → Prop) (p : Option Addr) (len cap : Nat) (b : List UInt8) (w : World) (ht : IsTab w tb) (hrow : IsRow T w (.slice p len cap) (bys b)) (hT : ∀ k, T k → k < w.heap.size ∧ k ≠ tb) (hcap : len ≤ cap) (hcm : cap ≤ maxLen) :
  Calls Tryz.prog 85 #[.pointer (some ⟨tb, 0, none⟩), .slice p len cap] w fun e w' => ∃ (kind gen seq : Nat) (pq : Option Addr) (lq cq n : Nat) (er : Int), e = .returned (.tuple #[.agg #[.int .i64 (kind : Nat), .int .i64 (gen : Nat), .int .i64 (seq : Nat), .slice pq lq cq], .int .i64 n, .int .i64 er]) ∧ GotR b kind gen seq pq lq cq n er w w' ∧ IsTab w' tb ∧ Mod (· = tb) w w' := by
 refine (frameGet tb T p len cap b w ht hrow hT hcap hcm).mono ?_
 rintro e w' ⟨ht1, hm1, ⟨hnone, rfl⟩ | ⟨kind, gen, seq, body, q, c, hsome, rfl, hv⟩⟩
 ·exact ⟨0, 0, 0, none, 0, 0, 0, 2, rfl, .inl ⟨hnone, rfl⟩, ht1, hm1⟩
 ·exact ⟨kind, gen, seq, q, body.length, c, sectorsF body.length, 0, rfl, .inr ⟨body, hsome, rfl, rfl, rfl, hv⟩, ht1, hm1⟩
theorem getF_fits (b : List UInt8) (k g q : Nat) (body : List UInt8) (h : getF b = some (k, g, q, body)) : 64 * sectorsF body.length ≤ b.length ∧ 1 ≤ sectorsF body.length ∧ sectorsF body.length ≤ 1000 ∧ body.length ≤ 60000 := by
 unfold getF at h
 split at h
 ·rename_i hc
  obtain ⟨-, h2, h3, -⟩ := hc
  simp only [Option.some.injEq, Prod.mk.injEq] at h
  obtain ⟨-, -, -, hb⟩ := h
  generalize (headF b).2.2.2 = nn at h2 h3 hb
  have hl : 64 * sectorsF nn ≤ b.length := by unfold liftOk at h3; rw [Bool.and_eq_true, decide_eq_true_eq] at h3; exact h3.1
  have hs : 24 + nn ≤ 63 * sectorsF nn ∧ 1 ≤ sectorsF nn ∧ sectorsF nn ≤ 1000 := by unfold sectorsF; omega
  have hbl : body.length = nn := by rw [← hb, List.length_take, List.length_drop, tailsTo_length b _ hl]; omega
  rw [hbl]
  omega
 ·cases h
/-- the records from a place on -/
def followsN (b : List UInt8) (gen : Nat) : Nat → Nat → List (List UInt8) → Nat × List (List UInt8)
 | 0, a, rs => (a, rs)
 | f + 1, a, rs => match getF (b.drop (64 * a)) with
  | some (k, g, q, body) => if k = 2 ∧ g = gen ∧ q = rs.length + 1 then followsN b gen f (a + sectorsF body.length) (rs ++ [body]) else (a, rs)
  | none => (a, rs)
theorem followsN_none (b : List UInt8) (gen f a : Nat) (rs : List (List UInt8)) (h : getF (b.drop (64 * a)) = none) : followsN b gen (f + 1) a rs = (a, rs) := by unfold followsN; rw [h]
theorem followsN_stop (b : List UInt8) (gen f a : Nat) (rs : List (List UInt8)) (k g q : Nat) (body : List UInt8) (h : getF (b.drop (64 * a)) = some (k, g, q, body)) (hn : ¬ (k = 2 ∧ g = gen ∧ q = rs.length + 1)) : followsN b gen (f + 1) a rs = (a, rs) := by unfold followsN; rw [h]; exact if_neg hn
theorem followsN_go (b : List UInt8) (gen f a : Nat) (rs : List (List UInt8)) (k g q : Nat) (body : List UInt8) (h : getF (b.drop (64 * a)) = some (k, g, q, body)) (hn : k = 2 ∧ g = gen ∧ q = rs.length + 1) : followsN b gen (f + 1) a rs = followsN b gen f (a + sectorsF body.length) (rs ++ [body]) := by rw [followsN, h]; exact if_pos hn
def JS.follows (s : JS) (b : List UInt8) : JS :=
 { s with at_ := (followsN b s.gen (b.length / 64 - s.at_ + 1) s.at_ s.recs).1, recs := (followsN b s.gen (b.length / 64 - s.at_ + 1) s.at_ s.recs).2 }
set_option maxRecDepth 100000 in
set_option maxHeartbeats 16000000 in
theorem jFollows (S T : Nat → Prop) (jb tb db : Nat) (s : JS) (p : Option Addr) (len cap : Nat) (b : List UInt8) (w : World) (hj : IsJ S w jb tb db s) (ht : IsTab w tb) (hrow : IsRow T w (.slice p len cap) (bys b)) (hT : ∀ k, T k → k < w.heap.size ∧ k ≠ tb ∧ ¬ S k) (hS : ¬ S tb) (hcap : len ≤ cap) (hcm : cap ≤ maxLen)
  (hat : 64 * s.at_ ≤ len) (hlen : len ≤ 262144) (hrecs : s.recs.length ≤ 100000) :
  Calls Tryz.prog 57 #[.pointer (some ⟨jb, 0, none⟩), .slice p len cap] w fun e w' => e = .returned (.tuple #[]) ∧ IsJ (fun k => S k ∨ w.heap.size ≤ k) w' jb tb db (s.follows b) ∧ IsTab w' tb ∧ Mod (fun k => k = tb ∨ S k) w w' := by
 refine (?_ : ∀ Post : Ending → World → Prop, Hid (∀ e w', (e = .returned (.tuple #[]) ∧ IsJ (fun k => S k ∨ w.heap.size ≤ k) w' jb tb db (s.follows b) ∧ IsTab w' tb ∧ Mod (fun k => k = tb ∨ S k) w w') → Post e w') → Calls Tryz.prog 57 #[.pointer (some ⟨jb, 0, none⟩), .slice p len cap] w Post) _ (Lib.hid (fun _ _ h => h))
 intro Post HPOST
 have hjt : jb ≠ tb := fun e => hS (e ▸ hj.own)
 have hbl : b.length = len := by
  obtain ⟨_, _, h, _⟩ := hrow
  simp only [Value.slice.injEq, bys_length] at h
  exact h.2.1.symm
 have HBL := Lib.hid hbl
 have HROW := Lib.hid hrow
 have HTT := Lib.hid hT
 have HJ := Lib.hid hj
 have HT := Lib.hid ht
 have htl := ht.lt
 obtain ⟨N, hN⟩ : ∃ N, len / 64 = N := ⟨_, rfl⟩
 have hNb : N ≤ 4096 ∧ s.at_ ≤ N ∧ (∀ a, a ≤ N → 64 * a ≤ len) ∧ (∀ a, 64 * a ≤ len → a ≤ N) := by
  refine ⟨by omega, by omega, fun a h => by omega, fun a h => by omega⟩
 obtain ⟨R, hR⟩ : ∃ R, followsN b s.gen (N - s.at_ + 1) s.at_ s.recs = R := ⟨_, rfl⟩
 have HR := Lib.hid hR
 have HFIN : Hid (s.follows b = { s with at_ := R.1, recs := R.2 }) := Lib.hid (by unfold JS.follows; rw [hbl, hN, hR])
 have HNB := Lib.hid hNb.2.2
 obtain ⟨hN4, hatN, -⟩ := hNb
 clear hrow hT hj ht hbl hN hR hat
 go_enter Tryz.func57, Tryz.ntmps57
 go_wp2_with fail
 go_loopg [] (N - s.at_ + 1) (fun f wr => ∃ (a : Nat) (rs : List (List UInt8)), a ≤ N ∧ rs.length ≤ 100000 + a ∧ Hid (N - a + 1 ≤ f) ∧ Hid (followsN b s.gen f a rs = R) ∧ Hid (IsJ (fun k => S k ∨ w.heap.size ≤ k) wr jb tb db { s with at_ := a, recs := rs }) ∧ Hid (IsTab wr tb) ∧ Hid (Mod (fun k => k = tb ∨ S k) w wr))
 case atStart => exact ⟨s.at_, s.recs, hatN, by omega, Lib.hid (Nat.le_refl _), HR, Lib.hid (HJ.out.mono (fun _ _ h => .inl h)), HT, Lib.hid (Mod.refl _ _)⟩
 case round =>
  obtain ⟨at_, rs, ha, hrs, HF, HRR0, HJR, HTR, HMR⟩ := hrel
  obtain ⟨gf, hgf⟩ : ∃ gf, gk = gf + 1 := ⟨gk - 1, by have := HF.out; omega⟩
  have HRR : Hid (followsN b s.gen (gf + 1) at_ rs = R) := Lib.hid (by rw [← hgf]; exact HRR0.out)
  have HGF := Lib.hid hgf
  clear hgf HRR0
  obtain ⟨pp, cp, pr, cr, h1, h2, h3⟩ := HJR.out.ex
  simp only at h1 h2 h3
  obtain ⟨X, hX⟩ : ∃ X, 64 * at_ = X := ⟨_, rfl⟩
  have hXl : X ≤ len := by rw [← hX]; exact HNB.out.1 at_ ha
  have hrw : IsRow T wr (.slice p len cap) (bys b) := HROW.out.mod HMR.out (fun k _ h e => by have := HTT.out k h; rcases e with e | e; exact this.2.1 e; exact this.2.2 e)
  obtain ⟨p2, hsl, hrowsl⟩ := slice_from T p len cap X b wr hrw hXl hcap
  have hmul : IntKind.i64.wrap ((at_ : Int) * 64) = (X : Int) := by rw [IntKind.wrap_i64]; omega
  have HGET : Hid (∀ W, Mod nil wr W → Calls Tryz.prog 85 #[.pointer (some ⟨tb, 0, none⟩), .slice p2 (len - X) (cap - X)] W fun e w' => ∃ (kind gen seq : Nat) (pq : Option Addr) (lq cq n : Nat) (er : Int), e = .returned (.tuple #[.agg #[.int .i64 (kind : Nat), .int .i64 (gen : Nat), .int .i64 (seq : Nat), .slice pq lq cq], .int .i64 n, .int .i64 er]) ∧ GotR (b.drop X) kind gen seq pq lq cq n er W w' ∧ IsTab w' tb ∧ Mod (· = tb) W w') := Lib.hid (fun W m =>
   frameGet1 tb T p2 (len - X) (cap - X) (b.drop X) W (HTR.out.mod m (not_nil _)) (hrowsl W (hrw.modNil m)) (fun k h => ⟨by have := HTT.out k h; have := HMR.out.size; have := m.size; omega, (HTT.out k h).2.1⟩) (by omega) (by omega))
  have c0 := cell_of h1 0
  have c8 := cell_of h1 8
  simp only [List.getElem?_toArray, List.getElem?_cons_zero, List.getElem?_cons_succ] at c0 c8
  have hjl := heap_lt h1
  have HB := Lib.hid h1
  have HP := Lib.hid h2
  have HRS := Lib.hid h3
  have HX := Lib.hid hX
  have htw : tb < wr.heap.size := by have := HMR.out.size; omega
  clear h1 h2 h3 hrw hrowsl hX
  go_upto_region 0 with (fail)
  go_cut [4, 5, 6] from 69 (fun s4 s5 s6 wc => ∃ (F kind gen seq : Nat) (pq : Option Addr) (lq cq n : Nat) (er : Int), s4 = .pointer (some ⟨F, 0, none⟩) ∧ s5 = .int .i64 n ∧ s6 = .int .i64 er ∧ wr.heap.size ≤ F ∧ wc.heap[F]? = some (.cells #[.int .i64 (kind : Nat), .int .i64 (gen : Nat), .int .i64 (seq : Nat), .slice pq lq cq] 122 (0, 0)) ∧ GotR (b.drop X) kind gen seq pq lq cq n er wr wc ∧ IsTab wc tb ∧ Mod (· = tb) wr wc)
  case first => as_aux_lemma =>
   refine wp_region_held_drew (S := fun w' => w'.cell? ⟨jb, 0, none⟩ = some (.pointer (some ⟨tb, 0, none⟩)) ∧ w'.cell? ⟨jb, 8, none⟩ = some (.int .i64 at_)) (by kernel_rfl) (⟨c0, c8⟩) (fun hHeld => ?_)
   refine sH 0 ?_
   refine sH 1 ?_
   refine sH 2 ?_
   refine sH 3 ?_
   refine sH 4 ?_
   refine sH 5 ?_
   refine sH 6 ?_
   refine sH 7 ?_
   refine sH 8 ?_
   refine sH 9 ?_
   refine sH 10 ?_
   refine wpAnyH_ready (rs := [11, 16]) (by kernel_rfl) (by simp) ?_
   refine AllReadyH.cons (i := 11) rfl (fun K hK => ?_) ?_
   ·(try dsimp (config := { proj := false }) only [g0, g1, g2])
    go_simp
    refine (HGET.out _ ?_).mono ?_
    ·(repeat (first | refine Mod.drew ?_ | refine Mod.alloc ?_ _)); exact Mod.refl nil wr
    rintro e w1 ⟨kind, gen, seq, pq, lq, cq, n, er, rfl, hgot, ht1, hm1⟩
    have hmw : Mod (· = tb) wr w1 := (show Mod nil wr _ from by (repeat (first | refine Mod.drew ?_ | refine Mod.alloc ?_ _)); exact Mod.refl nil wr).ofNil.trans hm1 (fun _ _ h => h)
    have k0 := cell_kept c0 hmw hjl hjt
    have k8 := cell_kept c8 hmw hjl hjt
    have hjl1 := World.block_lt_of_cell? _ _ k0
    have ka0 : ∀ ob, (w1.alloc ob).cell? ⟨jb, 0, none⟩ = _ := fun ob => cell_kept k0 ((Mod.refl nil w1).alloc ob) hjl1 (not_nil _)
    have ka8 : ∀ ob, (w1.alloc ob).cell? ⟨jb, 8, none⟩ = _ := fun ob => cell_kept k8 ((Mod.refl nil w1).alloc ob) hjl1 (not_nil _)
    refine hK.out _ _ ⟨k0, k8⟩ (fun hHeld => ?_)
    clear hK K
    (try simp only [Act.put, pT])
    refine sH 12 ?_
    refine sH 13 ?_
    refine sH 14 ?_
    refine sH 15 ?_
    refine rH 16 (fun K hK => ?_)
    go_simp
    refine hK.out _ _ ⟨ka0 _, ka8 _⟩ (fun hHeld => ?_)
    clear hK K
    (try simp only [Act.put, pT])
    refine rH 17 (fun K hK => ?_)
    go_simp
    refine hK.out _ _ ⟨ka0 _, ka8 _⟩ (fun hHeld => ?_)
    clear hK K
    (try simp only [Act.put, pT])
    refine rH 18 (fun K hK => ?_)
    go_simp
    refine hK.out _ _ ⟨ka0 _, ka8 _⟩ (fun hHeld => ?_)
    clear hK K
    (try simp only [Act.put, pT])
    refine rH 19 (fun K hK => ?_)
    go_simp
    refine hK.out _ _ ⟨ka0 _, ka8 _⟩ (fun hHeld => ?_)
    clear hK K
    (try simp only [Act.put, pT])
    refine wpAnyH_done (by kernel_rfl) ?_ _
    go_wp2_with fail
    go_meet
    have hma : Mod nil w1 (w1.alloc (.cells #[.int .i64 kind, .int .i64 gen, .int .i64 seq, .slice pq lq cq] 122)) := (Mod.refl nil w1).alloc _
    refine ⟨w1.heap.size, kind, gen, seq, pq, lq, cq, n, er, rfl, rfl, rfl, hmw.size, heap_alloc_new _ _, ?_, ht1.mod hma (not_nil _), hmw.thenNil hma⟩
    exact hgot.mod hma (fun _ _ _ => not_nil _) (Nat.le_refl _)
   refine AllReadyH.cons (i := 16) rfl (fun K hK => ?_) AllReadyH.nil
   (try dsimp (config := { proj := false }) only [g0, g1, g2])
   go_simp
   have ka0 : ∀ ob, (wr.alloc ob).cell? ⟨jb, 0, none⟩ = _ := fun ob => cell_kept c0 ((Mod.refl nil wr).alloc ob) hjl (not_nil _)
   have ka8 : ∀ ob, (wr.alloc ob).cell? ⟨jb, 8, none⟩ = _ := fun ob => cell_kept c8 ((Mod.refl nil wr).alloc ob) hjl (not_nil _)
   refine hK.out _ _ ⟨ka0 _, ka8 _⟩ (fun hHeld => ?_)
   clear hK K
   (try simp only [Act.put, pT])
   refine rH 11 (fun K hK => ?_)
   go_simp
   refine (HGET.out _ ?_).mono ?_
   ·(repeat (first | refine Mod.drew ?_ | refine Mod.alloc ?_ _)); exact Mod.refl nil wr
   rintro e w1 ⟨kind, gen, seq, pq, lq, cq, n, er, rfl, hgot, ht1, hm1⟩
   have hmw : Mod (· = tb) wr w1 := (show Mod nil wr _ from by (repeat (first | refine Mod.drew ?_ | refine Mod.alloc ?_ _)); exact Mod.refl nil wr).ofNil.trans hm1 (fun _ _ h => h)
   have k0 := cell_kept c0 hmw hjl hjt
   have k8 := cell_kept c8 hmw hjl hjt
   have hjl1 := World.block_lt_of_cell? _ _ k0
   have hF0 : (wr.alloc (.cells #[.int .i64 0, .int .i64 0, .int .i64 0, .slice none 0 0] 122)).heap[wr.heap.size]? = some (.cells #[.int .i64 0, .int .i64 0, .int .i64 0, .slice none 0 0] 122 (0, 0)) := heap_alloc_new _ _
   have hF1 : w1.heap[wr.heap.size]? = some (.cells #[.int .i64 0, .int .i64 0, .int .i64 0, .slice none 0 0] 122 (0, 0)) := (hm1.block wr.heap.size (heap_lt hF0) (by omega)).trans hF0
   have y0 := cell_of hF1 0
   have y1 := cell_of hF1 1
   have y2 := cell_of hF1 2
   have y3 := cell_of hF1 3
   simp only [List.getElem?_toArray, List.getElem?_cons_zero, List.getElem?_cons_succ] at y0 y1 y2 y3
   have x0 := free_of hF1 0
   have x1 := free_of hF1 1
   have x2 := free_of hF1 2
   have x3 := free_of hF1 3
   have hmS : ∀ a b' c' d', Mod (· = wr.heap.size) w1 ((((w1.setCell ⟨wr.heap.size, 0, none⟩ a).setCell ⟨wr.heap.size, 1, none⟩ b').setCell ⟨wr.heap.size, 2, none⟩ c').setCell ⟨wr.heap.size, 3, none⟩ d') := fun a b' c' d' => ((((Mod.refl (· = wr.heap.size) w1).setCell _ _ (fun _ => rfl)).setCell _ _ (fun _ => rfl)).setCell _ _ (fun _ => rfl)).setCell _ _ (fun _ => rfl)
   have kb0 : ∀ a b' c' d', ((((w1.setCell ⟨wr.heap.size, 0, none⟩ a).setCell ⟨wr.heap.size, 1, none⟩ b').setCell ⟨wr.heap.size, 2, none⟩ c').setCell ⟨wr.heap.size, 3, none⟩ d').cell? ⟨jb, 0, none⟩ = _ := fun a b' c' d' => cell_kept k0 (hmS a b' c' d') hjl1 (show ¬ jb = wr.heap.size by omega)
   have kb8 : ∀ a b' c' d', ((((w1.setCell ⟨wr.heap.size, 0, none⟩ a).setCell ⟨wr.heap.size, 1, none⟩ b').setCell ⟨wr.heap.size, 2, none⟩ c').setCell ⟨wr.heap.size, 3, none⟩ d').cell? ⟨jb, 8, none⟩ = _ := fun a b' c' d' => cell_kept k8 (hmS a b' c' d') hjl1 (show ¬ jb = wr.heap.size by omega)
   have HMS := Lib.hid hmS
   have HGOT := Lib.hid hgot
   have HF1 := Lib.hid hF1
   have HMW := Lib.hid hmw
   have HT1 := Lib.hid ht1
   clear hmS hgot hF1 hF0 hm1 hmw ht1
   refine hK.out _ _ ⟨k0, k8⟩ (fun hHeld => ?_)
   clear hK K
   (try simp only [Act.put, pT])
   refine sH 12 ?_
   refine sH 13 ?_
   refine sH 14 ?_
   refine sH 15 ?_
   refine rH 17 (fun K hK => ?_)
   go_simp
   refine hK.out _ _ ⟨kb0 _ _ _ _, kb8 _ _ _ _⟩ (fun hHeld => ?_)
   clear hK K
   (try simp only [Act.put, pT])
   refine rH 18 (fun K hK => ?_)
   go_simp
   refine hK.out _ _ ⟨kb0 _ _ _ _, kb8 _ _ _ _⟩ (fun hHeld => ?_)
   clear hK K
   (try simp only [Act.put, pT])
   refine rH 19 (fun K hK => ?_)
   go_simp
   refine hK.out _ _ ⟨kb0 _ _ _ _, kb8 _ _ _ _⟩ (fun hHeld => ?_)
   clear hK K
   (try simp only [Act.put, pT])
   refine wpAnyH_done (by kernel_rfl) ?_ _
   go_wp2_with fail
   go_meet
   have g1 := heap_setCell_same HF1.out (.int .i64 kind) (off := 0)
   simp only [List.setIfInBounds_toArray, List.set_cons_succ, List.set_cons_zero] at g1
   have g2 := heap_setCell_same g1 (.int .i64 gen) (off := 1)
   simp only [List.setIfInBounds_toArray, List.set_cons_succ, List.set_cons_zero] at g2
   have g3 := heap_setCell_same g2 (.int .i64 seq) (off := 2)
   simp only [List.setIfInBounds_toArray, List.set_cons_succ, List.set_cons_zero] at g3
   have g4 := heap_setCell_same g3 (.slice pq lq cq) (off := 3)
   simp only [List.setIfInBounds_toArray, List.set_cons_succ, List.set_cons_zero] at g4
   have hmf := HMS.out (.int .i64 kind) (.int .i64 gen) (.int .i64 seq) (.slice pq lq cq)
   refine ⟨wr.heap.size, kind, gen, seq, pq, lq, cq, n, er, rfl, rfl, rfl, Nat.le_refl _, g4, ?_, HT1.out.mod hmf (show ¬ tb = wr.heap.size by omega), HMW.out.trans hmf (fun k hk h => by omega)⟩
   exact HGOT.out.mod hmf (fun k hk h e => by simp at h; omega) (by simp)
  case rest => as_aux_lemma =>
   obtain ⟨F, kind, gen, seq, pq, lq, cq, n, er, rfl, rfl, rfl, hF, hb, hgot, ht, hm⟩ := hcut
   clear hsl hmul c0 c8 HGET HT HJ
   have hjb := (hm.block jb hjl hjt).trans HB.out
   have hjc := heap_lt hjb
   have hFj : ¬ jb = F := by omega
   have r0 := cell_of hb 0
   have r1 := cell_of hb 1
   have r2 := cell_of hb 2
   have r3 := cell_of hb 3
   have g4 := cell_of hjb 4
   have g5 := cell_of hjb 5
   have g7 := cell_of hjb 7
   simp only [List.getElem?_toArray, List.getElem?_cons_zero, List.getElem?_cons_succ] at r0 r1 r2 r3 g4 g5 g7
   have HJC : Hid (IsJ (fun k => S k ∨ w.heap.size ≤ k) wc jb tb db { s with at_ := at_, recs := rs }) := Lib.hid (HJR.out.mod hm (fun k _ h e => by subst e; rcases h with h | h; exact hS h; omega))
   have HMC : Hid (Mod (fun k => k = tb ∨ S k) w wc) := Lib.hid (HMR.out.trans hm (fun k _ h => .inl h))
   have HTC := Lib.hid ht
   have HM := Lib.hid hm
   have HBJ := Lib.hid hjb
   have HBF := Lib.hid hb
   have HSTOP : Hid (followsN b s.gen (gf + 1) at_ rs = (at_, rs) → ∀ n, Post (.returned (.tuple #[])) (wc.drewN n)) := Lib.hid (fun e n => HPOST.out _ _ ⟨rfl, by
    have hR2 : R = (at_, rs) := HRR.out.symm.trans e
    rw [HFIN.out, hR2]
    exact HJC.out.modNil ((Mod.refl nil wc).drewN n), HTC.out.mod ((Mod.refl nil wc).drewN n) (not_nil _), HMC.out.drewN n⟩)
   have HGOT := Lib.hid hgot
   obtain ⟨GG, hGG⟩ : ∃ GG, s.gen = GG := ⟨_, rfl⟩
   rw [hGG] at g4
   have HGG := Lib.hid hGG
   clear hb ht hm hjb hgot hGG
   by_cases her : er = 0
   ·subst her
    obtain ⟨body, hsome, hn, rfl, hv⟩ : ∃ body, getF (b.drop X) = some (kind, gen, seq, body) ∧ n = sectorsF body.length ∧ lq = body.length ∧ IsVec (fun k => wr.heap.size ≤ k) wc 5 1 (.slice pq lq cq) lq (bys body) := by
     rcases HGOT.out with ⟨_, h⟩ | ⟨body, h1, _, h2, h3, h4⟩
     ·cases h
     ·exact ⟨body, h1, h2, h3, h4⟩
    have HSOME : Hid (getF (b.drop (64 * at_)) = some (kind, gen, seq, body)) := Lib.hid (by rw [HX.out]; exact hsome)
    have HV := Lib.hid hv
    have HN := Lib.hid hn
    clear hsome hv HGOT hn
    have HSTOP2 : Hid (¬ (kind = 2 ∧ gen = s.gen ∧ seq = rs.length + 1) → ∀ n, Post (.returned (.tuple #[])) (wc.drewN n)) := Lib.hid (fun hne => HSTOP.out (followsN_stop b s.gen gf at_ rs kind gen seq body HSOME.out hne))
    by_cases hk : kind = 2
    ·subst hk
     by_cases hg : gen = GG
     ·subst hg
      by_cases hq : seq = rs.length + 1
      ·have q1 : ((seq : Int) != (rs.length : Int) + 1) = false := by simp; omega
       have q2 : ((gen : Int) != (gen : Int)) = false := by simp
       have q3 : (((2 : Nat) : Int) != 2) = false := rfl
       have hwq : IntKind.i64.wrap ((rs.length : Int) + 1) = (rs.length : Int) + 1 := by rw [IntKind.wrap_i64]; omega
       have HGO : Hid (followsN b s.gen gf (at_ + n) (rs ++ [body]) = R) := Lib.hid (by
        rw [← HRR.out, followsN_go b s.gen gf at_ rs 2 gen seq body HSOME.out ⟨rfl, HGG.out.symm, hq⟩, HN.out])
       have hfit : 64 * (at_ + n) ≤ len ∧ 1 ≤ n ∧ n ≤ 1000 := by
        have h1 := getF_fits _ _ _ _ _ HSOME.out
        rw [List.length_drop, HBL.out, ← HN.out] at h1
        omega
       obtain ⟨hfit1, hn1, hn2⟩ := hfit
       have hfitN := HNB.out.2 _ hfit1
       have HQ := Lib.hid hq
       clear hq hfit1
       go_upto_region 1 with (fail)
       go_quiet (fail)
       generalize hw3 : World.drewN wc _ = w3
       have hm3 : Mod nil wc w3 := by rw [← hw3]; exact (Mod.refl _ _).drewN _
       have hb3 := hm3.keep HBJ.out
       have hf3 := hm3.keep HBF.out
       clear r0 r1 r2 r3 g4 g5 g7 q1 q2 q3 hwq hw3
       have r3 := cell_of hf3 3
       have g7 := cell_of hb3 7
       have g8 := cell_of hb3 8
       simp only [List.getElem?_toArray, List.getElem?_cons_zero, List.getElem?_cons_succ] at r3 g7 g8
       have hjl3 := heap_lt hb3
       have hfl3 := heap_lt hf3
       have ka7 : ∀ ob, (w3.alloc ob).cell? ⟨jb, 7, none⟩ = _ := fun ob => cell_kept g7 ((Mod.refl nil w3).alloc ob) hjl3 (not_nil _)
       have ka3 : ∀ ob, (w3.alloc ob).cell? ⟨F, 3, none⟩ = _ := fun ob => cell_kept r3 ((Mod.refl nil w3).alloc ob) hfl3 (not_nil _)
       obtain ⟨v8, w8, hrun8, hv8, hm8, ho8⟩ := texts_append (R := fun k => wr.heap.size ≤ k) (w := w3.drew) 85 (((HRS.out.mod HM.out (fun k _ h e => by subst e; rcases h.1 with h | h; exact hS h; omega)).modNil hm3).modNil (Mod.refl nil w3).drew) (((HV.out.row).modNil hm3).modNil (Mod.refl nil w3).drew) (fun k hk => ⟨⟨.inr (Nat.le_trans HMR.out.size hk), by have : wr.heap.size ≤ k := hk; omega⟩, fun ho => by have := (HRS.out.own ho).2; have : wr.heap.size ≤ k := hk; omega⟩) rfl (by omega)
       rw [show w3.drew.alloc (.cells #[.slice pq body.length cq] 40) = (w3.alloc (.cells #[.slice pq body.length cq] 40)).drew from rfl, show w3.drew.heap.size = w3.heap.size from rfl] at hrun8
       have hm8' : Mod (fun k => Value.ownBlock (.slice pr rs.length cr) = some k) w3 w8 := (Mod.refl nil w3).drew.ofNil.trans hm8 (fun _ _ h => h)
       obtain ⟨p8, c8, rfl⟩ := hv8.form
       have k7 := cell_kept g7 hm8' hjl3 (fun ho => (HRS.out.own ho).1.2 rfl)
       have k3 := cell_kept r3 hm8' hfl3 (fun ho => by have := (HRS.out.own ho).2; omega)
       have hb8 := (hm8'.block jb hjl3 (fun ho => (HRS.out.own ho).1.2 rfl)).trans hb3
       have z7 := free_of hb8 7
       have HV8 := Lib.hid hv8
       have HO8 := Lib.hid ho8
       have HM8 := Lib.hid hm8'
       have HB8 := Lib.hid hb8
       have HM3 := Lib.hid hm3
       clear hv8 hm8 hm8' hb8 ho8 hm3 hb3 hf3 g8
       go_upto_region 2 with (fail)
       refine region_till (fun w' => w'.cell? ⟨jb, 7, none⟩ = some (.slice pr rs.length cr) ∧ w'.cell? ⟨F, 3, none⟩ = some (.slice pq body.length cq)) 11 (by kernel_rfl) ?_
       refine sF 0 (fun _ => ⟨g7, r3⟩) ?_
       refine sF 1 (fun _ => ⟨g7, r3⟩) ?_
       refine sF 2 (fun _ => ⟨g7, r3⟩) ?_
       refine sF 3 (fun _ => ⟨g7, r3⟩) ?_
       refine sT 4 (⟨g7, r3⟩) ?_
       refine sF 5 (fun _ => ⟨g7, r3⟩) ?_
       refine sT 6 (⟨g7, r3⟩) ?_
       refine rT 7 (fun K hK => ?_)
       go_simp
       refine hK.out _ _ (fun _ => ⟨ka7 _, ka3 _⟩) ?_
       clear hK K
       (try simp only [Act.put, pT])
       refine rT 8 (fun K hK => ?_)
       refine step_append_run rfl _ _ _ _ rfl rfl rfl hrun8 ?_
       refine hK.out _ _ (fun _ => ⟨k7, k3⟩) ?_
       clear hK K
       (try simp only [Act.put, pT])
       refine rT 9 (fun K hK => ?_)
       go_simp
       refine hK.out _ _ (fun _ => ⟨k7, k3⟩) ?_
       clear hK K
       (try simp only [Act.put, pT])
       refine rT 10 (fun K hK => ?_)
       go_simp
       refine hK.out _ _ (fun _ => ⟨k7, k3⟩) ?_
       clear hK K
       (try simp only [Act.put, pT])
       refine rT 11 (fun K hK => ?_)
       go_simp
       refine hK.out _ _ (fun h => (by simp at h)) ?_
       clear hK K
       (try simp only [Act.put, pT])
       refine till_done (by kernel_rfl) ?_ _
       have g1 := heap_setCell_same HB8.out (.slice p8 (rs.length + 1) c8) (off := 7)
       simp only [List.setIfInBounds_toArray, List.set_cons_succ, List.set_cons_zero] at g1
       have hm9 : Mod (· = jb) w8 (w8.setCell ⟨jb, 7, none⟩ (.slice p8 (rs.length + 1) c8)) := (Mod.refl _ _).setCell _ _ (fun _ => rfl)
       generalize World.setCell w8 _ _ = w9 at g1 hm9 ⊢
       have g8 := cell_of g1 8
       have x8 := free_of g1 8
       simp only [List.getElem?_toArray, List.getElem?_cons_zero, List.getElem?_cons_succ] at g8
       obtain ⟨A, hA⟩ : ∃ A, at_ + n = A := ⟨_, rfl⟩
       have hadd : IntKind.i64.wrap ((at_ : Int) + (n : Int)) = (A : Int) := by rw [IntKind.wrap_i64]; omega
       have HG1 := Lib.hid g1
       have HM9 := Lib.hid hm9
       have HA := Lib.hid hA
       clear g1 hm9 hA k7 k3 ka7 ka3 r3 g7 hrun8 z7
       go_wp2_with fail
       go_roundg gf
       case measure => have := HGF.out; omega
       case rel =>
        have g2 := heap_setCell_same HG1.out (.int .i64 A) (off := 8)
        simp only [List.setIfInBounds_toArray, List.set_cons_succ, List.set_cons_zero] at g2
        have hmw8 : Mod (fun k => (k = tb ∨ S k) ∨ k = jb) w w8 := ((HMC.out.thenNil HM3.out).mono (fun _ _ h => .inl h)).trans HM8.out (fun k hk ho => by have := (HRS.out.own ho).1; rcases this.1 with h | h; exact .inl (.inr h); omega)
        have hmj : Mod (· = jb) w8 (w9.setCell ⟨jb, 8, none⟩ (.int .i64 A)) := HM9.out.trans ((Mod.refl (· = jb) w9).setCell _ _ (fun _ => rfl)) (fun _ _ h => h)
        have hmw : Mod (fun k => k = tb ∨ S k) w (w9.setCell ⟨jb, 8, none⟩ (.int .i64 A)) := (hmw8.trans hmj (fun _ _ h => .inr h)).mono (fun k hk h => by rcases h with h | h; exact h; subst h; rcases HJR.out.own with h | h; exact .inr h; omega)
        have hmr : Mod (fun k => (k = tb ∨ (Value.slice pr rs.length cr).ownBlock = some k) ∨ k = jb) wr (w9.setCell ⟨jb, 8, none⟩ (.int .i64 A)) := (((HM.out.thenNil HM3.out).mono (fun _ _ h => .inl (.inl h))).trans HM8.out (fun _ _ h => .inl (.inr h))).trans hmj (fun _ _ h => .inr h)
        refine ⟨A, rs ++ [body], by have := HA.out; omega, ?_, Lib.hid ?_, Lib.hid ?_, Lib.hid ⟨HJR.out.own, pp, cp, p8, c8, ?_, ?_, ?_⟩, Lib.hid ?_, Lib.hid hmw⟩
        ·rw [List.length_append]; have := HA.out; simp only [List.length_cons, List.length_nil]; omega
        ·have := HGF.out; have := HF.out; have := HA.out; omega
        ·rw [← HA.out]; exact HGO.out
        ·simp only [List.length_append, List.length_cons, List.length_nil]; exact g2
        ·refine (HP.out.here.mod hmr (fun k hk h e => ?_)).mono (fun k hk h => ⟨h.1.1, h.1.2.1, fun ho => ?_⟩)
         ·rcases e with (e | e) | e
          ·subst e
           rcases h.1.1 with h | h
           ·exact hS h
           ·omega
          ·exact h.1.2.2 e
          ·exact h.1.2.1 e
         ·simp only [List.length_append, List.length_cons, List.length_nil, Nat.zero_add] at ho
          rcases HO8.out k ho with h' | h'
          ·exact h.1.2.2 h'
          ·have h2 := h.2; have := HM.out.size; have := HM3.out.size; have h3 : w3.heap.size ≤ k := h'; omega
        ·simp only [List.length_append, List.length_cons, List.length_nil, Nat.zero_add]
         refine (HV8.out.mod hmj (fun k hk h e => ?_)).mono (fun k hk h => ?_)
         ·subst e
          rcases h with h | h
          ·exact h.2 rfl
          ·have h3 : w3.heap.size ≤ k := h; omega
         ·rcases h with h | h
          ·exact h
          ·have h3 : w3.heap.size ≤ k := h
           exact ⟨.inr (by have := HMC.out.size; have := HM3.out.size; omega), by omega⟩
        ·exact ((HTC.out.mod HM3.out (not_nil _)).mod HM8.out (fun ho => by rcases (HRS.out.own ho).1.1 with h | h; exact hS h; omega)).mod hmj (fun e => hjt e.symm)
      ·have q1 : ((seq : Int) != (rs.length : Int) + 1) = true := by simp; omega
       have q2 : ((gen : Int) != (gen : Int)) = false := by simp
       have q3 : (((2 : Nat) : Int) != 2) = false := rfl
       have hwq : IntKind.i64.wrap ((rs.length : Int) + 1) = (rs.length : Int) + 1 := by rw [IntKind.wrap_i64]; omega
       have HE := Lib.hid (HSTOP2.out (fun h => hq h.2.2))
       clear hq
       go_upto_region 1 with (fail)
       go_quiet (fail)
       go_wp2_with fail
       go_end0
       exact HE.out _
     ·have q2 : ((gen : Int) != (GG : Int)) = true := by simp; omega
      have q3 : (((2 : Nat) : Int) != 2) = false := rfl
      have HE := Lib.hid (HSTOP2.out (fun h => hg (h.2.1.trans HGG.out)))
      clear hg
      go_upto_region 1 with (fail)
      go_quiet (fail)
      go_wp2_with fail
      go_end0
      exact HE.out _
    ·have q3 : ((kind : Int) != 2) = true := by simp; omega
     have HE := Lib.hid (HSTOP2.out (fun h => hk h.1))
     clear hk
     go_upto_region 1 with (fail)
     go_quiet (fail)
     go_wp2_with fail
     go_end0
     exact HE.out _
   ·have hnone : getF (b.drop (64 * at_)) = none := by
     rw [HX.out]
     rcases HGOT.out with ⟨h, _⟩ | ⟨body, _, h, _⟩
     ·exact h
     ·exact absurd h her
    have HE := Lib.hid (HSTOP.out (followsN_none b s.gen gf at_ rs hnone))
    have her2 : er = 2 := by
     rcases HGOT.out with ⟨_, h⟩ | ⟨body, _, h, _⟩
     ·exact h
     ·exact absurd h her
    subst her2
    clear hnone her HGOT
    go_upto_region 1 with (fail)
    go_quiet (fail)
    go_wp2_with fail
    go_end0
    exact HE.out _
end Go.Proofs.YtdfahddpkkeldaaGreat

/- Package journal: a journal over its disk; what Append and Compact do. -/
namespace Go.Proofs.YtdfahddpkkeldaaGreat
open Go.RowKit
def JS.appends (s : JS) (d : DS) (b : List UInt8) : JS × DS × Int :=
 if (s.down || d.down) = true then ({ s with down := true }, d, 13) else
 if 60000 < b.length then (s, d, 3) else
 if d.lasts.length / 2 < s.at_ + sectorsF b.length then (s, d, 12) else
 if (d.lays (s.half * (d.lasts.length / 2) + s.at_) (putF 2 s.gen (s.recs.length + 1) b) (sectorsF b.length)).2 = true then
  ({ s with recs := s.recs ++ [b], at_ := s.at_ + sectorsF b.length }, (d.lays (s.half * (d.lasts.length / 2) + s.at_) (putF 2 s.gen (s.recs.length + 1) b) (sectorsF b.length)).1, 0)
 else ({ s with down := true }, (d.lays (s.half * (d.lasts.length / 2) + s.at_) (putF 2 s.gen (s.recs.length + 1) b) (sectorsF b.length)).1, 13)
/-- what a journal's numbers keep to; N: a half's sectors -/
def JS.Lim (s : JS) (N : Nat) : Prop := s.half ≤ 1 ∧ s.gen ≤ 4294967295 ∧ s.recs.length ≤ s.at_ ∧ s.at_ ≤ N
/-- a journal over its disk, and the table: all of their blocks are in F; they share none -/
structure IsJD (F : Nat → Prop) (w : World) (jb tb db bl bm : Nat) (s : JS) (d : DS) : Prop where
 tab : IsTab w tb
 ex : ∃ S C, IsJ S w jb tb db s ∧ IsDisk w db bl bm C d ∧ (∀ k, S k → ¬ foot db bl bm C k) ∧ ∀ k, (S k ∨ foot db bl bm C k) → F k ∧ k ≠ tb ∧ k < w.heap.size
theorem IsJD.mod {F T : Nat → Prop} {w w' : World} {jb tb db bl bm : Nat} {s : JS} {d : DS} (h : IsJD F w jb tb db bl bm s d) (m : Mod T w w') (hs : ∀ k, k < w.heap.size → (F k ∨ k = tb) → ¬ T k) : IsJD F w' jb tb db bl bm s d := by
 obtain ⟨S, C, h1, h2, h3, h4⟩ := h.ex
 exact ⟨h.tab.mod m (hs tb h.tab.lt (.inr rfl)), S, C, h1.mod m (fun k hk h => hs k hk (.inl (h4 k (.inl h)).1)), h2.mod m (fun k hk h => hs k hk (.inl (h4 k (.inr h)).1)), h3, fun k h => ⟨(h4 k h).1, (h4 k h).2.1, Nat.lt_of_lt_of_le (h4 k h).2.2 m.size⟩⟩
theorem IsJD.modNil {F : Nat → Prop} {w w' : World} {jb tb db bl bm : Nat} {s : JS} {d : DS} (h : IsJD F w jb tb db bl bm s d) (m : Mod nil w w') : IsJD F w' jb tb db bl bm s d := h.mod m (fun _ _ _ f => f)
theorem IsJD.mono {F G : Nat → Prop} {w : World} {jb tb db bl bm : Nat} {s : JS} {d : DS} (h : IsJD F w jb tb db bl bm s d) (hs : ∀ k, k < w.heap.size → F k → G k) : IsJD G w jb tb db bl bm s d := by
 obtain ⟨S, C, h1, h2, h3, h4⟩ := h.ex
 exact ⟨h.tab, S, C, h1, h2, h3, fun k h => ⟨hs k (h4 k h).2.2 (h4 k h).1, (h4 k h).2⟩⟩
theorem IsJ.here {S : Nat → Prop} {w : World} {jb tb db : Nat} {s : JS} (h : IsJ S w jb tb db s) : IsJ (fun k => S k ∧ k < w.heap.size) w jb tb db s := h.mono (fun _ hk h => ⟨h, hk⟩)
/-- packing: blocks of the journal and of the disk as they are known behind a call -/
theorem IsJD.pack {F S0 C0 S C : Nat → Prop} {w0 w : World} {jb tb db bl bm : Nat} {s : JS} {d : DS} (B : Nat) (hj : IsJ S w jb tb db s) (hd : IsDisk w db bl bm C d) (ht : IsTab w tb) (hB : w0.heap.size ≤ B)
  (h3 : ∀ k, S0 k → ¬ foot db bl bm C0 k) (h4 : ∀ k, (S0 k ∨ foot db bl bm C0 k) → F k ∧ k ≠ tb ∧ k < w0.heap.size) (ht0 : tb < w0.heap.size) (hw : w0.heap.size ≤ w.heap.size)
  (hS : ∀ k, k < w.heap.size → S k → S0 k ∨ B ≤ k) (hC : ∀ k, k < w.heap.size → C k → C0 k ∨ (w0.heap.size ≤ k ∧ k < B)) : IsJD (fun k => F k ∨ w0.heap.size ≤ k) w jb tb db bl bm s d := by
 have hf : ∀ k, (k = db ∨ k = bl ∨ k = bm) → F k ∧ k ≠ tb ∧ k < w0.heap.size := fun k h => h4 k (.inr (by rcases h with h | h | h; exact .inl h; exact .inr (.inl h); exact .inr (.inr (.inl h))))
 have hc3 : ∀ k, foot db bl bm (fun k => C k ∧ k < w.heap.size) k → foot db bl bm C0 k ∨ (w0.heap.size ≤ k ∧ k < B ∧ k < w.heap.size) := fun k h => by
  rcases h with h | h | h | h
  ·exact .inl (.inl h)
  ·exact .inl (.inr (.inl h))
  ·exact .inl (.inr (.inr (.inl h)))
  ·rcases hC k h.2 h.1 with h' | h'
   ·exact .inl (.inr (.inr (.inr h')))
   ·exact .inr ⟨h'.1, h'.2, h.2⟩
 refine ⟨ht, _, _, hj.here, hd.here, fun k hk hc => ?_, fun k h => ?_⟩
 ·rcases hS k hk.2 hk.1 with h | h
  ·rcases hc3 k hc with h' | h'
   ·exact h3 k h h'
   ·have := (h4 k (.inl h)).2.2; omega
  ·rcases hc3 k hc with h' | h'
   ·have := (h4 k (.inr h')).2.2; omega
   ·omega
 ·rcases h with h | h
  ·rcases hS k h.2 h.1 with h' | h'
   ·have h5 := h4 k (.inl h'); exact ⟨.inl h5.1, h5.2.1, by omega⟩
   ·exact ⟨.inr (by omega), by omega, h.2⟩
  ·rcases hc3 k h with h' | h'
   ·have h5 := h4 k (.inr h'); exact ⟨.inl h5.1, h5.2.1, by omega⟩
   ·exact ⟨.inr h'.1, by omega, h'.2.2⟩
end Go.Proofs.YtdfahddpkkeldaaGreat

/- Package journal: Append. (Printed by wip/tools/gen_jappend.py.) -/
namespace Go.Proofs.YtdfahddpkkeldaaGreat
open Go.RowKit
set_option maxRecDepth 100000 in
set_option maxHeartbeats 16000000 in
theorem jAppend (F T : Nat → Prop) (jb tb db bl bm : Nat) (s : JS) (d : DS) (pb : Option Addr) (nb cb : Nat) (b : List UInt8) (w : World) (h : IsJD F w jb tb db bl bm s d) (hl : s.Lim (d.lasts.length / 2)) (hrow : IsRow T w (.slice pb nb cb) (bys b))
  (hT : ∀ k, T k → k < w.heap.size ∧ ¬ F k ∧ k ≠ tb) (hcap : nb ≤ cb) :
  Calls Tryz.prog 36 #[.pointer (some ⟨jb, 0, none⟩), .slice pb nb cb] w fun e w' => e = .returned (.int .i64 (s.appends d b).2.2) ∧ IsJD (fun k => F k ∨ w.heap.size ≤ k) w' jb tb db bl bm (s.appends d b).1 (s.appends d b).2.1 ∧ Mod (fun k => F k ∨ k = tb) w w' := by
 refine (?_ : ∀ Post : Ending → World → Prop, Hid (∀ e w', (e = .returned (.int .i64 (s.appends d b).2.2) ∧ IsJD (fun k => F k ∨ w.heap.size ≤ k) w' jb tb db bl bm (s.appends d b).1 (s.appends d b).2.1 ∧ Mod (fun k => F k ∨ k = tb) w w') → Post e w') → Calls Tryz.prog 36 #[.pointer (some ⟨jb, 0, none⟩), .slice pb nb cb] w Post) _ (Lib.hid (fun _ _ h => h))
 intro Post HPOST
 obtain ⟨S, C, hj, hd, h3, h4⟩ := h.ex
 have hbl : b.length = nb := by
  obtain ⟨_, _, h, _⟩ := hrow
  simp only [Value.slice.injEq, bys_length] at h
  exact h.2.1.symm
 have htl := h.tab.lt
 have HJ := Lib.hid hj
 have HD := Lib.hid hd
 have HT := Lib.hid h.tab
 have H3 := Lib.hid h3
 have H4 := Lib.hid h4
 have HROW := Lib.hid hrow
 have HTT := Lib.hid hT
 have HBL := Lib.hid hbl
 have hjF := h4 jb (.inl hj.own)
 have hdF := h4 db (.inr (.inl rfl))
 have hlF := h4 bl (.inr (.inr (.inl rfl)))
 have hmF := h4 bm (.inr (.inr (.inr (.inl rfl))))
 have HF : Hid (F jb ∧ F db ∧ F bl ∧ F bm) := Lib.hid ⟨hjF.1, hdF.1, hlF.1, hmF.1⟩
 have hjt := hjF.2.1
 have hj3 : ¬ (jb = db ∨ jb = bl ∨ jb = bm) := fun e => h3 jb hj.own (by rcases e with e | e | e; exact .inl e; exact .inr (.inl e); exact .inr (.inr (.inl e)))
 obtain ⟨pp, cp, pr, cr, hb, hp, hr⟩ := hj.ex
 have c0 := cell_of hb 0
 have c1 := cell_of hb 1
 have c2 := cell_of hb 2
 have c4 := cell_of hb 4
 have c7 := cell_of hb 7
 have z2 := free_of hb 2
 simp only [List.getElem?_toArray, List.getElem?_cons_zero, List.getElem?_cons_succ] at c0 c1 c2 c4 c7
 have hjl := heap_lt hb
 have HDN : Hid (Calls Tryz.prog 54 #[.pointer (some ⟨db, 0, none⟩)] w fun e w' => e = .returned (.bool d.down) ∧ w = w') := Lib.hid (diskDown db bl bm C d w hd)
 have HLIM := Lib.hid hl
 have HDOWN : Hid ((s.down || d.down) = true → Post (.returned (.int .i64 13)) (w.setCell ⟨jb, 2, none⟩ (.bool true))) := Lib.hid (fun hx => by
  have hs : s.appends d b = ({ s with down := true }, d, 13) := by unfold JS.appends; exact if_pos hx
  have hm : Mod (· = jb) w (w.setCell ⟨jb, 2, none⟩ (.bool true)) := (Mod.refl _ _).setCell _ _ (fun _ => rfl)
  have hdw := hj.downed (Mod.refl nil w) (fun _ _ _ h => h)
  refine HPOST.out _ _ ⟨by rw [hs], ?_, hm.mono (fun k _ e => .inl (e ▸ hjF.1))⟩
  rw [hs]
  exact IsJD.pack (S0 := S) (C0 := C) (w0 := w) w.heap.size hdw (hd.mod hm (fun k _ h e => h3 k (e ▸ hj.own) h)) (h.tab.mod hm (fun e => hjt e.symm)) (Nat.le_refl _) h3 h4 htl hm.size (fun k _ h => .inl h) (fun k _ h => .inl h))
 have HSAME : Hid (∀ r W, s.appends d b = (s, d, r) → Mod (· = tb) w W → IsTab W tb → Post (.returned (.int .i64 r)) W) := Lib.hid (fun r W hs hm ht => by
  refine HPOST.out _ _ ⟨by rw [hs], ?_, hm.mono (fun k _ e => .inr e)⟩
  rw [hs]
  exact IsJD.pack (S0 := S) (C0 := C) (w0 := w) w.heap.size (hj.mod hm (fun k _ h e => (h4 k (.inl h)).2.1 e)) (hd.mod hm (fun k _ h e => (h4 k (.inr h)).2.1 e)) ht (Nat.le_refl _) h3 h4 htl hm.size (fun k _ h => .inl h) (fun k _ h => .inl h))
 clear hj hd hrow hT hbl h3 h4 hjF hdF hlF hmF hl hp hr
 cases hsd : s.down with
 | true =>
  rw [hsd] at c2
  have HE := Lib.hid (HDOWN.out (by rw [hsd]; rfl))
  clear hb hsd h
  go_enter Tryz.func36, Tryz.ntmps36
  go_wp2_with fail
  exact HE.out
 | false =>
  cases hdd : d.down with
  | true =>
   rw [hsd] at c2
   rw [hdd] at HDN
   have HE := Lib.hid (HDOWN.out (by rw [hdd]; simp))
   clear hb hsd hdd h
   go_enter Tryz.func36, Tryz.ntmps36
   go_wp2_with fail
   refine HDN.out.mono ?_
   rintro e w' ⟨rfl, rfl⟩
   go_wp2_with fail
   exact HE.out
  | false =>
   rw [hsd] at c2
   rw [hdd] at HDN
   have hup : ¬ (s.down || d.down) = true := by rw [hsd, hdd]; decide
   have HB := Lib.hid hb
   obtain ⟨L, hL⟩ : ∃ L, s.recs.length = L := ⟨_, rfl⟩
   obtain ⟨A, hA⟩ : ∃ A, s.at_ = A := ⟨_, rfl⟩
   obtain ⟨G, hG⟩ : ∃ G, s.gen = G := ⟨_, rfl⟩
   obtain ⟨hh, hg, hla, hat⟩ := HLIM.out
   have hNN : d.lasts.length / 2 ≤ 4096 := by have := HD.out.room; omega
   obtain ⟨N, hN⟩ : ∃ N, d.lasts.length / 2 = N := ⟨_, rfl⟩
   rw [hG] at hg c4
   rw [hL] at hla c7
   rw [hA] at hla hat
   rw [hN] at hat hNN
   have hL1 : IntKind.i64.wrap ((L : Int) + 1) = (L : Int) + 1 := by rw [IntKind.wrap_i64]; omega
   have HUP := Lib.hid hup
   have HLL := Lib.hid hL
   have HA := Lib.hid hA
   have HG := Lib.hid hG
   have HN := Lib.hid hN
   clear hb hup hL hA hG hN h
   have HPUT1 : Hid (60000 < nb → ∀ W, Mod nil w W → Calls Tryz.prog 65 #[.pointer (some ⟨tb, 0, none⟩), .agg #[.int .i64 2, .int .i64 G, .int .i64 ((L : Int) + 1), .slice pb nb cb]] W fun e w' => e = .returned (.tuple #[.slice none 0 0, .int .i64 3]) ∧ Mod nil w w' ∧ IsTab w' tb) := Lib.hid (fun h4 W hm => by
    refine (framePut_long tb 2 G (L + 1) nb cb pb W h4).mono ?_
    rintro e w' ⟨rfl, h2⟩
    exact ⟨rfl, hm.trans h2 (fun _ _ h => h), HT.out.mod (hm.trans h2 (fun _ _ h => h)) (not_nil _)⟩)
   by_cases hbig : 60000 < nb
   ·have HPB := Lib.hid (HPUT1.out hbig)
    go_enter Tryz.func36, Tryz.ntmps36
    go_wp2_with fail
    refine HDN.out.mono ?_
    rintro e w' ⟨rfl, rfl⟩
    go_upto_region 4 with (fail)
    go_region_held3 (fun w' => w'.cell? ⟨jb, 0, none⟩ = some (.pointer (some ⟨tb, 0, none⟩)) ∧ w'.cell? ⟨jb, 4, none⟩ = some (.int .i64 G) ∧ w'.cell? ⟨jb, 7, none⟩ = some (.slice pr L cr)) (first | exact ⟨e0, e4, e7⟩ | exact ⟨c0, c4, c7⟩) (first
     | (go_at_call 65; refine (HPB.out _ ?_).mono ?_; (repeat (first | exact Mod.refl _ _ | refine Mod.drew ?_)); rintro e w2 ⟨rfl, hm2, ht2⟩; have e0 := cell_kept c0 hm2 hjl (not_nil _); have e4 := cell_kept c4 hm2 hjl (not_nil _); have e7 := cell_kept c7 hm2 hjl (not_nil _)))
    have HE : Hid (Post (.returned (.int .i64 3)) w2) := Lib.hid (HSAME.out 3 w2 (by unfold JS.appends; rw [if_neg HUP.out, if_pos (by rw [HBL.out]; exact hbig)]) hm2.ofNil ht2)
    clear hm2 ht2 e0 e4 e7
    go_wp2_with fail
    exact HE.out
   ·obtain ⟨M, hM⟩ : ∃ M, sectorsF nb = M := ⟨_, rfl⟩
    have hMb : 1 ≤ M ∧ M ≤ 1000 := by rw [← hM]; unfold sectorsF; omega
    obtain ⟨hM1, hM2⟩ := hMb
    obtain ⟨Q, hQ⟩ : ∃ Q, 64 * M = Q := ⟨_, rfl⟩
    have hq : (Q : Int) / 64 = (M : Int) := by omega
    have hqw : IntKind.i64.wrap (M : Int) = (M : Int) := by rw [IntKind.wrap_i64]; omega
    obtain ⟨P, hP⟩ : ∃ P, putF 2 G (L + 1) b = P := ⟨_, rfl⟩
    have HPB : Hid (∀ W, Mod nil w W → Calls Tryz.prog 65 #[.pointer (some ⟨tb, 0, none⟩), .agg #[.int .i64 2, .int .i64 G, .int .i64 ((L : Int) + 1), .slice pb nb cb]] W fun e w' => ∃ g, e = .returned (.tuple #[.slice (some ⟨g, 0, none⟩) Q Q, .int .i64 0]) ∧ w.heap.size ≤ g ∧ w'.heap[g]? = some (.cells (bys P).toArray 5 (0, 0)) ∧ IsTab w' tb ∧ Mod (· = tb) w w') := Lib.hid (fun W hm => by
     refine (framePut tb 2 G (L + 1) nb cb pb T b W (HT.out.mod hm (not_nil _)) (HROW.out.modNil hm) (fun k hk => ⟨Nat.lt_of_lt_of_le (HTT.out k hk).1 hm.size, (HTT.out k hk).2.2⟩) (by omega) hg (by omega) (by omega)).mono ?_
     rintro e w' ⟨g, n, hn, rfl, h1, h2, h3, h4⟩
     have hnQ : n = Q := by rw [hn, hM, hQ]
     subst hnQ
     rw [hP] at h2
     exact ⟨g, rfl, Nat.le_trans hm.size h1, h2, h3, hm.ofNil.trans h4 (fun _ _ h => h)⟩)
    have hPl : P.length = Q := by rw [← hP, putF_length, HBL.out, hM, hQ]
    have HPL := Lib.hid hPl
    have HM := Lib.hid hM
    have HQ := Lib.hid hQ
    have HP := Lib.hid hP
    clear hM hQ hP hPl HPUT1
    go_enter Tryz.func36, Tryz.ntmps36
    go_wp2_with fail
    refine HDN.out.mono ?_
    rintro e w' ⟨rfl, rfl⟩
    go_upto_region 4 with (fail)
    go_region_held3 (fun w' => w'.cell? ⟨jb, 0, none⟩ = some (.pointer (some ⟨tb, 0, none⟩)) ∧ w'.cell? ⟨jb, 4, none⟩ = some (.int .i64 G) ∧ w'.cell? ⟨jb, 7, none⟩ = some (.slice pr L cr)) (first | exact ⟨e0, e4, e7⟩ | exact ⟨c0, c4, c7⟩) (first
     | (go_at_call 65; refine (HPB.out _ ?_).mono ?_; (repeat (first | exact Mod.refl _ _ | refine Mod.drew ?_)); rintro e w2 ⟨g, rfl, hg2, hb2, ht2, hm2⟩; have e0 := cell_kept c0 hm2 hjl hjt; have e4 := cell_kept c4 hm2 hjl hjt; have e7 := cell_kept c7 hm2 hjl hjt))
    have hj2 := HJ.out.mod hm2 (fun k _ h e => (H4.out k (.inl h)).2.1 e)
    have hd2 := HD.out.mod hm2 (fun k _ h e => (H4.out k (.inr h)).2.1 e)
    have HRM : Hid (Calls Tryz.prog 66 #[.pointer (some ⟨jb, 0, none⟩)] w2 fun e w' => e = .returned (.int .i64 ((N : Int) - (A : Int))) ∧ Mod nil w2 w') := Lib.hid (by
     refine (jRoom S jb tb db bl bm C d s w2 hj2 hd2 (by have := HA.out; omega)).mono ?_
     rintro e w' ⟨rfl, n, rfl⟩
     exact ⟨by rw [HN.out, HA.out], (Mod.refl _ _).drewN n⟩)
    have HJ2 := Lib.hid hj2
    have HD2 := Lib.hid hd2
    have HT2 := Lib.hid ht2
    have HM2 := Lib.hid hm2
    have HB2 := Lib.hid hb2
    have hs2 := hm2.size
    clear hj2 hd2 ht2 hm2 hb2 c0 c1 c2 c4 c7 e0 e4 e7
    go_wp2_with fail
    refine HRM.out.mono ?_
    rintro e w3 ⟨rfl, hm3⟩
    have HM3 := Lib.hid hm3
    have hs3 := hm3.size
    clear hm3
    by_cases hroom : N < A + M
    ·have ht1 : decide ((N : Int) - (A : Int) < (M : Int)) = true := by simp; omega
     have ht2 : (N : Int) - (A : Int) < (M : Int) := by omega
     have HE : Hid (Post (.returned (.int .i64 12)) w3) := Lib.hid (HSAME.out 12 w3 (by unfold JS.appends; rw [if_neg HUP.out, if_neg (by rw [HBL.out]; exact hbig), if_pos (by rw [HN.out, HA.out, HBL.out, HM.out]; exact hroom)]) (HM2.out.thenNil HM3.out) (HT2.out.mod HM3.out (not_nil _)))
     go_wp2_with fail
     exact HE.out
    ·have ht1 : decide ((N : Int) - (A : Int) < (M : Int)) = false := by simp; omega
     have ht2 : ¬ ((N : Int) - (A : Int) < (M : Int)) := by omega
     obtain ⟨pp3, cp3, pr3, cr3, hb3, -, -⟩ := (HJ2.out.modNil HM3.out).ex
     have e3 := cell_of hb3 3
     have e8 := cell_of hb3 8
     simp only [List.getElem?_toArray, List.getElem?_cons_zero, List.getElem?_cons_succ] at e3 e8
     rw [HA.out] at e8
     obtain ⟨H, hH⟩ : ∃ H, s.half = H := ⟨_, rfl⟩
     rw [hH] at e3 hh
     obtain ⟨base, hbase⟩ : ∃ base, H * N + A = base := ⟨_, rfl⟩
     obtain ⟨d1, hd1⟩ : ∃ d1, (d.lays base P M).1 = d1 := ⟨_, rfl⟩
     have hrow3 : IsRow (· = g) w3 (.slice (some ⟨g, 0, none⟩) Q Q) (bys P) := (IsRow.ofBlock (S := (· = g)) HB2.out rfl Q Q (by rw [bys_length, HPL.out])).modNil HM3.out
     have hg3 : g < w3.heap.size := Nat.lt_of_lt_of_le (heap_lt HB2.out) hs3
     have HLY : Hid (∀ W, Mod nil w3 W → Calls Tryz.prog 67 #[.pointer (some ⟨jb, 0, none⟩), .int .i64 H, .int .i64 A, .slice (some ⟨g, 0, none⟩) Q Q] W fun e w' => ∃ C', e = .returned (.int .i64 (if (d.lays base P M).2 then 0 else 13)) ∧ IsDisk w' db bl bm C' d1 ∧ (∀ k, C' k → C k ∨ w.heap.size ≤ k) ∧ IsJ S w' jb tb db { s with down := s.down || !(d.lays base P M).2 } ∧ IsTab w' tb ∧ Mod (fun k => F k ∨ k = tb) w w' ∧ w'.cell? ⟨jb, 3, none⟩ = some (.int .i64 H) ∧ w'.cell? ⟨jb, 8, none⟩ = some (.int .i64 A)) := Lib.hid (fun W hm => by
      refine (jLays S C (· = g) jb tb db bl bm H A base M s d _ Q Q P W ((HJ2.out.modNil HM3.out).modNil hm) ((HD2.out.modNil HM3.out).modNil hm) (hrow3.modNil hm) (fun k hk => by have := hm.size; have h4 := H4.out; have a1 := (h4 jb (.inl HJ2.out.own)).2.2; have a2 := (h4 db (.inr (.inl rfl))).2.2; have a3 := (h4 bl (.inr (.inr (.inl rfl)))).2.2; have a4 := (h4 bm (.inr (.inr (.inr (.inl rfl))))).2.2; have : k = g := hk; omega) H3.out HQ.out.symm hM1 hM2 hh (by omega) (by rw [HN.out]; exact hbase) (Nat.le_refl _) (by unfold maxLen; have := HQ.out; omega)).mono ?_
      rintro e w' ⟨C', rfl, h1, h2, h3, h4⟩
      rw [hd1] at h1
      have hm3 := (HM2.out.thenNil HM3.out).thenNil hm
      refine ⟨C', rfl, h1, fun k hk => (h2 k hk).imp id (fun h => by have := hm3.size; omega), h3, ((HT2.out.mod HM3.out (not_nil _)).mod hm (not_nil _)).mod h4 (fun e => ?_), ?_, ?_, ?_⟩
      ·rcases e with (e | e | e) | e
       ·exact (H4.out db (.inr (.inl rfl))).2.1 e.symm
       ·exact (H4.out bl (.inr (.inr (.inl rfl)))).2.1 e.symm
       ·exact (H4.out bm (.inr (.inr (.inr (.inl rfl))))).2.1 e.symm
       ·exact hjt e.symm
      ·refine (hm3.mono (fun _ _ h => .inr h)).trans h4 (fun k _ e => .inl ?_)
       rcases e with (e | e | e) | e
       ·exact e ▸ HF.out.2.1
       ·exact e ▸ HF.out.2.2.1
       ·exact e ▸ HF.out.2.2.2
       ·exact e ▸ HF.out.1
      ·obtain ⟨_, _, _, _, hb5, -, -⟩ := h3.ex
       have f3 := cell_of hb5 3
       simp only [List.getElem?_toArray, List.getElem?_cons_zero, List.getElem?_cons_succ, hH] at f3
       exact f3
      ·obtain ⟨_, _, _, _, hb5, -, -⟩ := h3.ex
       have f8 := cell_of hb5 8
       simp only [List.getElem?_toArray, List.getElem?_cons_zero, List.getElem?_cons_succ, HA.out] at f8
       exact f8)
     have HD1 := Lib.hid hd1
     have HBS := Lib.hid hbase
     have HH := Lib.hid hH
     have hjl3 := heap_lt hb3
     clear hb3 hd1 hbase hrow3 hH hg3
     cases hok : (d.lays base P M).2 with
     | false =>
      simp only [hok, Bool.false_eq_true, if_false, if_true, Bool.not_false, Bool.not_true, Bool.or_true, Bool.or_false] at HLY
      have HOK := Lib.hid hok
      clear hok
      have hap : s.appends d b = ({ s with down := true }, d1, 13) := by
       unfold JS.appends
       rw [if_neg HUP.out, if_neg (by rw [HBL.out]; exact hbig), if_neg (by rw [HN.out, HA.out, HBL.out, HM.out]; exact hroom), HG.out, HLL.out, HP.out, HN.out, HA.out, HH.out, HBL.out, HM.out, HBS.out, if_neg (by rw [HOK.out]; decide), HD1.out]
      have HAP := Lib.hid hap
      clear hap
      go_upto_region 10 with (fail)
      go_region_held3 (fun w' => w'.cell? ⟨jb, 3, none⟩ = some (.int .i64 H) ∧ w'.cell? ⟨jb, 8, none⟩ = some (.int .i64 A)) (first | exact ⟨f3, f8⟩ | exact ⟨e3, e8⟩) (first
       | (go_at_call 67; refine (HLY.out _ ?_).mono ?_; (repeat (first | exact Mod.refl _ _ | refine Mod.drew ?_)); rintro e w5 ⟨C', rfl, hd5, hC5, hj5, ht5, hm5, f3, f8⟩))
      have HE : Hid (Post (.returned (.int .i64 13)) w5) := Lib.hid (HPOST.out _ _ ⟨by rw [HAP.out], by
       rw [HAP.out]
       exact IsJD.pack (S0 := S) (C0 := C) (w0 := w) w5.heap.size hj5 hd5 ht5 hm5.size H3.out H4.out htl hm5.size (fun k _ h => .inl h) (fun k hk h => (hC5 k h).imp id (fun h => ⟨h, hk⟩)), hm5⟩)
      clear hd5 hC5 hj5 ht5 hm5 f3 f8 e3 e8
      go_wp2_with fail
      exact HE.out
     | true =>
      simp only [hok, Bool.false_eq_true, if_false, if_true, Bool.not_false, Bool.not_true, Bool.or_true, Bool.or_false] at HLY
      have HOK := Lib.hid hok
      clear hok
      have hap : s.appends d b = ({ s with recs := s.recs ++ [b], at_ := s.at_ + M }, d1, 0) := by
       unfold JS.appends
       rw [if_neg HUP.out, if_neg (by rw [HBL.out]; exact hbig), if_neg (by rw [HN.out, HA.out, HBL.out, HM.out]; exact hroom), HG.out, HLL.out, HP.out, HN.out, HA.out, HH.out, HBL.out, HM.out, HBS.out, if_pos HOK.out, HD1.out]
      have HAP := Lib.hid hap
      clear hap
      go_upto_region 10 with (fail)
      go_region_held3 (fun w' => w'.cell? ⟨jb, 3, none⟩ = some (.int .i64 H) ∧ w'.cell? ⟨jb, 8, none⟩ = some (.int .i64 A)) (first | exact ⟨f3, f8⟩ | exact ⟨e3, e8⟩) (first
       | (go_at_call 67; refine (HLY.out _ ?_).mono ?_; (repeat (first | exact Mod.refl _ _ | refine Mod.drew ?_)); rintro e w5 ⟨C', rfl, hd5, hC5, hj5, ht5, hm5, f3, f8⟩))
      have hj5' : IsJ S w5 jb tb db s := by
       have e : { s with down := s.down } = s := rfl
       rw [e] at hj5
       exact hj5
      obtain ⟨pp5, cp5, pr5, cr5, hb5, hp5, hr5⟩ := hj5'.ex
      rw [HLL.out] at hb5 hr5 hp5
      have g7 := cell_of hb5 7
      simp only [List.getElem?_toArray, List.getElem?_cons_zero, List.getElem?_cons_succ] at g7
      have hjl5 := heap_lt hb5
      have HB5 := Lib.hid hb5
      have HRS : Hid (IsTexts (fun k => (S k ∧ k ≠ jb) ∨ w5.heap.size ≤ k) w5 (.slice pr5 L cr5) L s.recs) := Lib.hid (hr5.mono (fun k _ h => .inl h))
      have HJN : Hid (¬ (Value.slice pr5 L cr5).ownBlock = some jb) := Lib.hid (fun ho => (hr5.own ho).1.2 rfl)
      have HRO : Hid (∀ k, (Value.slice pr5 L cr5).ownBlock = some k → S k ∧ k < w5.heap.size) := Lib.hid (fun k ho => ⟨(hr5.own ho).1.1, (hr5.own ho).2⟩)
      have HP5 := Lib.hid hp5
      have HD5 := Lib.hid hd5
      have HC5 := Lib.hid hC5
      have HJ5 := Lib.hid hj5'
      have HT5 := Lib.hid ht5
      have HM5 := Lib.hid hm5
      have hs5 := hm5.size
      have HCL : Hid (∀ W, Mod nil w5 W → Calls Tryz.prog 50 #[.slice pb nb cb] W fun e w' => ∃ p6 c6, e = .returned (.slice p6 nb c6) ∧ IsVec (fun k => w5.heap.size ≤ k) w' 5 1 (.slice p6 nb c6) nb (bys b) ∧ Mod nil w5 w') := Lib.hid (fun W hm => by
       refine (bytesClone T _ b W ((HROW.out.mod HM5.out (fun k _ h e => by rcases e with e | e; exact (HTT.out k h).2.1 e; exact (HTT.out k h).2.2 e)).modNil hm) (by rw [HBL.out]; omega)).mono ?_
       rintro e w' ⟨v, rfl, hv, hm'⟩
       rw [HBL.out] at hv
       obtain ⟨p6, c6, rfl⟩ := hv.form
       exact ⟨p6, c6, rfl, hv.mono (fun k _ h => Nat.le_trans hm.size h), hm.trans hm' (fun _ _ h => h)⟩)
      clear hb5 hp5 hr5 hd5 hC5 hj5 hj5' ht5 hm5 f3 f8 e3 e8
      go_wp2_with fail
      go_upto_region 13 with (fail)
      refine region_till (fun w' => w'.cell? ⟨jb, 7, none⟩ = some (.slice pr5 L cr5)) 11 (by kernel_rfl) ?_
      refine sF 0 (fun _ => g7) ?_
      refine sF 1 (fun _ => g7) ?_
      refine sF 2 (fun _ => g7) ?_
      refine sF 3 (fun _ => g7) ?_
      refine sT 4 (g7) ?_
      refine sF 5 (fun _ => g7) ?_
      refine rT 6 (fun K hK => ?_)
      go_simp
      refine (HCL.out _ ?_).mono ?_
      ·(repeat (first | exact Mod.refl _ _ | refine Mod.drew ?_))
      rintro e w6 ⟨p6, c6, rfl, hv6, hm6⟩
      have f7 := cell_kept g7 hm6 hjl5 (not_nil _)
      have hjl6 := World.block_lt_of_cell? _ _ f7
      have ka7 : ∀ ob, (w6.alloc ob).cell? ⟨jb, 7, none⟩ = _ := fun ob => cell_kept f7 ((Mod.refl nil w6).alloc ob) hjl6 (not_nil _)
      obtain ⟨v8, w8, hrun8, hv8, hm8, ho8⟩ := texts_append (R := fun k => w5.heap.size ≤ k) (w := w6) 85 (HRS.out.modNil hm6) hv6.row (fun k hk => ⟨.inr hk, fun ho => by have := (HRS.out.own ho).2; have : w5.heap.size ≤ k := hk; omega⟩) rfl (by omega)
      obtain ⟨p8, c8, rfl⟩ := hv8.form
      have hno : ¬ (Value.slice pr5 L cr5).ownBlock = some jb := fun ho => HJN.out ho
      have k7 := cell_kept f7 hm8 hjl6 hno
      have hb8 := (hm8.block jb hjl6 hno).trans ((hm6.block jb hjl5 (not_nil _)).trans HB5.out)
      have z7 := free_of hb8 7
      have HV8 := Lib.hid hv8
      have HM8 := Lib.hid hm8
      have HM6 := Lib.hid hm6
      have HB8 := Lib.hid hb8
      have HO8 := Lib.hid ho8
      have hs68 := hm8.size
      have hs56 := hm6.size
      clear hv8 hm8 hb8 ho8 hv6 hm6
      refine hK.out _ _ (fun _ => f7) ?_
      clear hK K
      (try simp only [Act.put, pT])
      refine rT 7 (fun K hK => ?_)
      go_simp
      refine hK.out _ _ (fun _ => ka7 _) ?_
      clear hK K
      (try simp only [Act.put, pT])
      refine rT 8 (fun K hK => ?_)
      refine step_append_run rfl _ _ _ _ rfl rfl rfl hrun8 ?_
      refine hK.out _ _ (fun _ => k7) ?_
      clear hK K
      (try simp only [Act.put, pT])
      refine rT 9 (fun K hK => ?_)
      go_simp
      refine hK.out _ _ (fun _ => k7) ?_
      clear hK K
      (try simp only [Act.put, pT])
      refine rT 10 (fun K hK => ?_)
      go_simp
      refine hK.out _ _ (fun _ => k7) ?_
      clear hK K
      (try simp only [Act.put, pT])
      refine rT 11 (fun K hK => ?_)
      go_simp
      refine hK.out _ _ (fun h => (by simp at h)) ?_
      clear hK K
      (try simp only [Act.put, pT])
      refine till_done (by kernel_rfl) ?_ _
      have g1 := heap_setCell_same HB8.out (.slice p8 (L + 1) c8) (off := 7)
      simp only [List.setIfInBounds_toArray, List.set_cons_succ, List.set_cons_zero] at g1
      have hm9 : Mod (· = jb) w8 (w8.setCell ⟨jb, 7, none⟩ (.slice p8 (L + 1) c8)) := (Mod.refl _ _).setCell _ _ (fun _ => rfl)
      generalize World.setCell w8 _ _ = w9 at g1 hm9 ⊢
      have g8 := cell_of g1 8
      have x8 := free_of g1 8
      simp only [List.getElem?_toArray, List.getElem?_cons_zero, List.getElem?_cons_succ] at g8
      rw [HA.out] at g8
      obtain ⟨AM, hAM⟩ : ∃ AM, A + M = AM := ⟨_, rfl⟩
      have hadd : IntKind.i64.wrap ((A : Int) + (M : Int)) = (AM : Int) := by rw [IntKind.wrap_i64]; omega
      have HG1 := Lib.hid g1
      have HM9 := Lib.hid hm9
      have HAM := Lib.hid hAM
      have hE : Post (.returned (.int .i64 0)) (w9.setCell ⟨jb, 8, none⟩ (.int .i64 AM)) := by
       have g2 := heap_setCell_same HG1.out (.int .i64 AM) (off := 8)
       simp only [List.setIfInBounds_toArray, List.set_cons_succ, List.set_cons_zero] at g2
       have hmj : Mod (· = jb) w8 (w9.setCell ⟨jb, 8, none⟩ (.int .i64 AM)) := HM9.out.trans ((Mod.refl (· = jb) w9).setCell _ _ (fun _ => rfl)) (fun _ _ h => h)
       have hm5j : Mod (fun k => (Value.slice pr5 L cr5).ownBlock = some k ∨ k = jb) w5 (w9.setCell ⟨jb, 8, none⟩ (.int .i64 AM)) := ((HM6.out.ofNil.trans HM8.out (fun _ _ h => h)).mono (fun _ _ h => .inl h)).trans hmj (fun _ _ h => .inr h)
       have hmall : Mod (fun k => F k ∨ k = tb) w (w9.setCell ⟨jb, 8, none⟩ (.int .i64 AM)) := HM5.out.trans hm5j (fun k _ e => by
        rcases e with e | e
        ·exact .inl (H4.out k (.inl (HRO.out k e).1)).1
        ·exact .inl (e ▸ HF.out.1))
       refine HPOST.out _ _ ⟨by rw [HAP.out], ?_, hmall⟩
       rw [HAP.out]
       refine IsJD.pack (S := fun k => S k ∨ w5.heap.size ≤ k) (C := fun k => C' k ∧ k < w5.heap.size) (S0 := S) (C0 := C) (w0 := w) w5.heap.size ⟨.inl HJ5.out.own, pp5, cp5, p8, c8, ?_, ?_, ?_⟩ (HD5.out.here.mod hm5j (fun k hk h e => ?_)) (HT5.out.mod hm5j (fun e => ?_)) hs5 H3.out H4.out htl hmall.size (fun k _ h => h) (fun k hk h => (HC5.out k h.1).imp id (fun h' => ⟨h', h.2⟩))
       ·simp only [List.length_append, List.length_cons, List.length_nil, Nat.zero_add, HLL.out, HA.out, HAM.out]
        exact g2
       ·simp only [List.length_append, List.length_cons, List.length_nil, Nat.zero_add, HLL.out]
        refine (HP5.out.here.mod hm5j (fun k hk h e => ?_)).mono (fun k hk h => ⟨.inl h.1.1, h.1.2.1, fun ho => ?_⟩)
        ·rcases e with e | e
         ·exact h.1.2.2 e
         ·exact h.1.2.1 e
        ·rcases HO8.out k ho with h' | h'
         ·exact h.1.2.2 h'
         ·have := h.2; have h7 : w6.heap.size ≤ k := h'; omega
       ·simp only [List.length_append, List.length_cons, List.length_nil, Nat.zero_add, HLL.out]
        refine (HV8.out.mod hmj (fun k hk h e => ?_)).mono (fun k hk h => ?_)
        ·subst e
         rcases h with (h | h) | h
         ·exact h.2 rfl
         ·omega
         ·have h7 : w6.heap.size ≤ k := h; omega
        ·rcases h with (h | h) | h
         ·exact ⟨.inl h.1, h.2⟩
         ·exact ⟨.inr h, by omega⟩
         ·have h7 : w6.heap.size ≤ k := h; exact ⟨.inr (by omega), by omega⟩
       ·have hdc : foot db bl bm C k ∨ (w.heap.size ≤ k ∧ k < w5.heap.size) := by
         rcases h with h | h | h | h
         ·exact .inl (.inl h)
         ·exact .inl (.inr (.inl h))
         ·exact .inl (.inr (.inr (.inl h)))
         ·rcases HC5.out k h.1 with h' | h'
          ·exact .inl (.inr (.inr (.inr h')))
          ·exact .inr ⟨h', h.2⟩
        have hSk : S k := by
         rcases e with e | e
         ·exact (HRO.out k e).1
         ·exact e ▸ HJ5.out.own
        rcases hdc with h' | h'
        ·exact H3.out k hSk h'
        ·have := (H4.out k (.inl hSk)).2.2; omega
       ·rcases e with e | e
        ·exact (H4.out tb (.inl (HRO.out tb e).1)).2.1 rfl
        ·exact hjt e.symm
      have HE := Lib.hid hE
      clear hE g1 hm9 k7 f7 ka7 g7 hrun8 z7 hAM
      go_wp2_with fail
      exact HE.out
end Go.Proofs.YtdfahddpkkeldaaGreat

/- Package journal: what Open finds. -/
namespace Go.Proofs.YtdfahddpkkeldaaGreat
open Go.RowKit
def JS.fresh (d : DS) : JS := ⟨d.down, false, 0, 0, 0, [], []⟩
def halfOf (d : DS) (h : Nat) : List UInt8 := sectorsAt d (h * (d.lasts.length / 2)) (d.lasts.length / 2)
def DS.looks (d : DS) : JS := ((JS.fresh d).takes 0 (halfOf d 0)).takes 1 (halfOf d 1)
def DS.opens (d : DS) : JS := if d.down = true then JS.fresh d else d.looks.follows (halfOf d d.looks.half)
theorem JS.takes_recs (s : JS) (h : Nat) (b : List UInt8) : (s.takes h b).recs = s.recs := by
 unfold JS.takes
 repeat' split
 all_goals rfl
theorem JS.takes_down (s : JS) (h : Nat) (b : List UInt8) : (s.takes h b).down = s.down := by
 unfold JS.takes
 repeat' split
 all_goals rfl
theorem JS.takes_cases (s : JS) (h : Nat) (b : List UInt8) : s.takes h b = s ∨ ((s.takes h b).half = h ∧ 64 * (s.takes h b).at_ ≤ b.length) := by
 unfold JS.takes
 split
 ·exact .inl rfl
 ·rename_i k g q body hg
  split
  ·exact .inr ⟨rfl, (getF_fits b k g q body hg).1⟩
  ·exact .inl rfl
theorem followsN_lim (b : List UInt8) (gen : Nat) : ∀ (f a : Nat) (rs : List (List UInt8)), 64 * a ≤ b.length → rs.length ≤ a → 64 * (followsN b gen f a rs).1 ≤ b.length ∧ (followsN b gen f a rs).2.length ≤ (followsN b gen f a rs).1
 | 0, a, rs, h1, h2 => ⟨h1, h2⟩
 | f + 1, a, rs, h1, h2 => by
  cases hg : getF (b.drop (64 * a)) with
  | none => rw [followsN_none b gen f a rs hg]; exact ⟨h1, h2⟩
  | some x =>
   obtain ⟨k, g, q, body⟩ := x
   by_cases hc : k = 2 ∧ g = gen ∧ q = rs.length + 1
   ·rw [followsN_go b gen f a rs k g q body hg hc]
    have hfit := getF_fits _ k g q body hg
    rw [List.length_drop] at hfit
    refine followsN_lim b gen f _ _ (by omega) ?_
    rw [List.length_append]
    simp only [List.length_cons, List.length_nil]
    omega
   ·rw [followsN_stop b gen f a rs k g q body hg hc]; exact ⟨h1, h2⟩
theorem DS.looks_lim (d : DS) (hh : ∀ h, h ≤ 1 → (halfOf d h).length = 64 * (d.lasts.length / 2)) : d.looks.half ≤ 1 ∧ d.looks.at_ ≤ d.lasts.length / 2 ∧ d.looks.recs = [] ∧ d.looks.down = d.down := by
 have h0 := hh 0 (by omega)
 have h1 := hh 1 (by omega)
 refine ⟨?_, ?_, ?_, ?_⟩
 ·unfold DS.looks
  rcases ((JS.fresh d).takes 0 (halfOf d 0)).takes_cases 1 (halfOf d 1) with e | e
  ·rw [e]
   rcases (JS.fresh d).takes_cases 0 (halfOf d 0) with e | e
   ·rw [e]; exact Nat.zero_le _
   ·rw [e.1]; exact Nat.zero_le _
  ·rw [e.1]; exact Nat.le_refl _
 ·unfold DS.looks
  rcases ((JS.fresh d).takes 0 (halfOf d 0)).takes_cases 1 (halfOf d 1) with e | e
  ·rw [e]
   rcases (JS.fresh d).takes_cases 0 (halfOf d 0) with e | e
   ·rw [e]; exact Nat.zero_le _
   ·have := e.2; omega
  ·have := e.2; omega
 ·unfold DS.looks; rw [JS.takes_recs, JS.takes_recs]; rfl
 ·unfold DS.looks; rw [JS.takes_down, JS.takes_down]; rfl
/-- a disk and the table: all of their blocks -/
def IsDT (F : Nat → Prop) (w : World) (tb db bl bm : Nat) (d : DS) : Prop := IsTab w tb ∧ ∃ C, IsDisk w db bl bm C d ∧ ∀ k, foot db bl bm C k → F k ∧ k ≠ tb ∧ k < w.heap.size
theorem IsJD.dt {F : Nat → Prop} {w : World} {jb tb db bl bm : Nat} {s : JS} {d : DS} (h : IsJD F w jb tb db bl bm s d) : IsDT F w tb db bl bm d := by
 obtain ⟨S, C, h1, h2, h3, h4⟩ := h.ex
 exact ⟨h.tab, C, h2, fun k hk => h4 k (.inr hk)⟩
end Go.Proofs.YtdfahddpkkeldaaGreat

/- What a journal's parts keep to, through Open and Append. -/
namespace Go.Proofs.YtdfahddpkkeldaaGreat
open Go.RowKit
/-- what a journal's parts keep to -/
def JS.Ok (s : JS) (N : Nat) : Prop := s.Lim N ∧ s.pict.length ≤ 60000 ∧ ∀ r ∈ s.recs, r.length ≤ 60000
theorem JS.fresh_ok (d : DS) (N : Nat) : (JS.fresh d).Ok N := ⟨⟨by simp [JS.fresh], by simp [JS.fresh], by simp [JS.fresh], by simp [JS.fresh]⟩, by simp [JS.fresh], fun r h => by simp [JS.fresh] at h⟩
theorem JS.takes_ok {s : JS} {N h : Nat} {b : List UInt8} (hh : h ≤ 1) (hb : b.length = 64 * N) (hs : s.Ok N) (hr : s.recs = []) : (s.takes h b).Ok N := by
 unfold JS.takes
 split
 ·exact hs
 ·rename_i k g q body heq
  split
  ·have h1 := getF_some heq
   have h2 := getF_fits _ _ _ _ _ heq
   obtain ⟨⟨a1, a2, a3, a4⟩, a5, a6⟩ := hs
   refine ⟨⟨hh, h1.2.2.1, ?_, ?_⟩, h1.2.2.2.2, ?_⟩
   ·simp only [hr, List.length_nil]; omega
   ·simp only; omega
   ·intro r h; simp only [hr] at h; cases h
  ·exact hs
theorem followsN_bodies (b : List UInt8) (gen : Nat) : ∀ (f a : Nat) (rs : List (List UInt8)), (∀ r ∈ rs, r.length ≤ 60000) → ∀ r ∈ (followsN b gen f a rs).2, r.length ≤ 60000
 | 0, _, _, h => h
 | f + 1, a, rs, h => by
  unfold followsN
  split
  ·rename_i k g q body heq
   split
   ·have h1 := getF_some heq
    exact followsN_bodies b gen f _ _ (fun r hr => by
     rcases List.mem_append.1 hr with hr | hr
     ·exact h r hr
     ·simp only [List.mem_singleton] at hr; rw [hr]; exact h1.2.2.2.2)
   ·exact h
  ·exact h
theorem JS.follows_ok {s : JS} {N : Nat} {b : List UInt8} (hb : b.length = 64 * N) (hs : s.Ok N) : (s.follows b).Ok N := by
 obtain ⟨⟨a1, a2, a3, a4⟩, a5, a6⟩ := hs
 have h := followsN_lim b s.gen (b.length / 64 - s.at_ + 1) s.at_ s.recs (by omega) a3
 have h2 := followsN_bodies b s.gen (b.length / 64 - s.at_ + 1) s.at_ s.recs a6
 unfold JS.follows
 exact ⟨⟨a1, a2, h.2, by have := h.1; simp only; omega⟩, a5, h2⟩
theorem DS.opens_ok (d : DS) (h : d.down = false → ∀ hf, hf ≤ 1 → (halfOf d hf).length = 64 * (d.lasts.length / 2)) : d.opens.Ok (d.lasts.length / 2) := by
 unfold DS.opens
 cases hd : d.down with
 | true => rw [if_pos rfl]; exact JS.fresh_ok _ _
 | false =>
  have hl := h hd
  rw [if_neg (by decide)]
  have l1 : ((JS.fresh d).takes 0 (halfOf d 0)).Ok (d.lasts.length / 2) := JS.takes_ok (by omega) (hl 0 (by omega)) (JS.fresh_ok _ _) rfl
  have l2 : d.looks.Ok (d.lasts.length / 2) := JS.takes_ok (by omega) (hl 1 (by omega)) l1 (by rw [JS.takes_recs]; rfl)
  exact JS.follows_ok (hl _ l2.1.1) l2
theorem DS.tails_len (base : Nat) (b : List UInt8) : ∀ (f k : Nat) (d : DS), (d.tails base b f k).1.lasts.length = d.lasts.length
 | 0, _, _ => rfl
 | f + 1, k, d => by
  unfold DS.tails
  split
  ·rw [DS.tails_len base b f (k + 1), DS.write_len]
  ·rw [DS.write_len]
theorem DS.lays_len (d : DS) (base : Nat) (b : List UInt8) (m : Nat) : (d.lays base b m).1.lasts.length = d.lasts.length := by
 unfold DS.lays
 have ht := DS.tails_len base b (m - 1) 1 d
 generalize (d.tails base b (m - 1) 1) = x at ht ⊢
 split
 ·rw [← ht]
  unfold DS.heads
  have h1 : ∀ y : DS, (if 1 < m then y.sync.1 else y).lasts.length = y.lasts.length := fun y => by split; rw [DS.sync_len]; rfl
  repeat' split
  all_goals simp only [DS.write_len, DS.sync_len, h1]
 ·exact ht
theorem JS.appends_ok {s : JS} {d : DS} {b : List UInt8} (hs : s.Ok (d.lasts.length / 2)) : (s.appends d b).1.Ok ((s.appends d b).2.1.lasts.length / 2) := by
 obtain ⟨⟨a1, a2, a3, a4⟩, a5, a6⟩ := id hs
 unfold JS.appends
 split
 ·exact hs
 split
 ·exact hs
 split
 ·exact hs
 rename_i _ hb hr
 split
 ·rw [DS.lays_len]
  refine ⟨⟨a1, a2, ?_, ?_⟩, a5, fun r h => ?_⟩
  ·simp only [List.length_append, List.length_cons, List.length_nil]; have := sectorsF_pos b.length; omega
  ·simp only; omega
  ·rcases List.mem_append.1 h with h | h
   ·exact a6 r h
   ·simp only [List.mem_singleton] at h; rw [h]; omega
 ·rw [DS.lays_len]; exact hs
end Go.Proofs.YtdfahddpkkeldaaGreat

/- Package journal, plain: a journal over a disk without a fuse; what Open reads of it again. -/
namespace Go.Proofs.YtdfahddpkkeldaaGreat
open Go.RowKit
/-- no frame of this number or a higher one -/
def noF (G : Nat) (b : List UInt8) : Prop := ∀ k g q body, getF b = some (k, g, q, body) → g < G
theorem noF.mono {G H : Nat} {b : List UInt8} (h : noF G b) (hG : G ≤ H) : noF H b := fun k g q body e => Nat.lt_of_lt_of_le (h k g q body e) hG
theorem noF_none {G : Nat} {b : List UInt8} (h : getF b = none) : noF G b := fun k g q body e => by rw [h] at e; cases e
/-- the records' frames -/
def recsImg (g : Nat) : Nat → List (List UInt8) → List UInt8
 | _, [] => []
 | q, r :: l => putF 2 g q r ++ recsImg g (q + 1) l
def recsSize : List (List UInt8) → Nat
 | [] => 0
 | r :: l => sectorsF r.length + recsSize l
theorem recsImg_snoc (g : Nat) (r : List UInt8) : ∀ (l : List (List UInt8)) (q : Nat), recsImg g q (l ++ [r]) = recsImg g q l ++ putF 2 g (q + l.length) r
 | [], q => by simp [recsImg]
 | a :: l, q => by
  rw [List.cons_append, recsImg, recsImg_snoc g r l (q + 1), recsImg, List.append_assoc, List.length_cons, show q + 1 + l.length = q + (l.length + 1) by omega]
theorem recsSize_snoc (r : List UInt8) : ∀ l : List (List UInt8), recsSize (l ++ [r]) = recsSize l + sectorsF r.length
 | [] => by simp [recsSize]
 | a :: l => by rw [List.cons_append, recsSize, recsSize_snoc r l, recsSize]; omega
theorem recsSize_len : ∀ l : List (List UInt8), l.length ≤ recsSize l
 | [] => Nat.le_refl _
 | a :: l => by rw [recsSize, List.length_cons]; have := recsSize_len l; have := sectorsF_pos a.length; omega
/-- what lies in the journal's half up to its next sector -/
def JS.img (s : JS) : List UInt8 := (if s.has = true then putF 1 s.gen 0 s.pict else []) ++ recsImg s.gen 1 s.recs
def JS.head (s : JS) : Nat := if s.has = true then sectorsF s.pict.length else 0
structure PI (c : List (List UInt8)) (N : Nat) (s : JS) : Prop where
 up : s.down = false
 lim : s.Lim N
 gen0 : s.has = false → s.gen = 0 ∧ s.half = 0 ∧ s.pict = []
 bod : s.pict.length ≤ 60000 ∧ ∀ r ∈ s.recs, r.length ≤ 60000
 at_ : s.at_ = s.head + recsSize s.recs
 room : 2 * N ≤ c.length ∧ N ≤ 4096
 all64 : ∀ x ∈ c, x.length = 64
 img : secs c (s.half * N) s.at_ = s.img
 own1 : ∀ p, p < N → noF (s.gen + 1) (secs c (s.half * N + p) (N - p))
 own2 : ∀ p, s.at_ ≤ p → p < N → noF s.gen (secs c (s.half * N + p) (N - p))
 oth : ∀ p, p < N → noF s.gen (secs c ((1 - s.half) * N + p) (N - p))
/-- what is found in a half behind a frame that was laid over some sectors of it -/
theorem over_ok {c c' : List (List UInt8)} {N H at_ m k g q : Nat} {body : List UInt8} (hm : m = sectorsF body.length) (hat : at_ + m ≤ N) (hN : H + N ≤ c.length) (hN' : H + N ≤ c'.length) (h64 : ∀ x ∈ c, x.length = 64) (h64' : ∀ x ∈ c', x.length = 64)
    (hc : ∀ j, c'[j]? = if H + at_ ≤ j ∧ j < H + at_ + m then some (sectAt (putF k g q body) (j - (H + at_))) else c[j]?) :
    secs c' (H + at_) m = putF k g q body ∧ (∀ p, p < at_ → ∀ G, noF G (secs c (H + p) (N - p)) → noF G (secs c' (H + p) (N - p))) ∧
    (∀ p, at_ < p → p < at_ + m → ∀ G, noF G (secs c' (H + p) (N - p))) ∧ (∀ p, at_ + m ≤ p → p < N → secs c' (H + p) (N - p) = secs c (H + p) (N - p)) := by
  have hpl := putF_length k g q body
  have e1 : secs c' (H + at_) m = putF k g q body := by
    rw [secs_chunks c' (putF k g q body) (H + at_) m (fun j hj => by rw [hc, if_pos ⟨by omega, by omega⟩]; congr 2; omega), List.take_of_length_le (by rw [hpl, hm]; exact Nat.le_refl _)]
  have e2 : ∀ j, j < m → ∀ x, (secs c' (H + at_) (N - at_))[64 * j]? = some x → x = markF j := by
    intro j hj x hx
    have : secs c' (H + at_) (N - at_) = putF k g q body ++ secs c' (H + at_ + m) (N - at_ - m) := by
      rw [← e1, ← secs_split]; congr 1; omega
    rw [this, putF_mark k g q body _ j (by omega)] at hx
    exact (Option.some.inj hx).symm
  refine ⟨e1, fun p hp G h => ?_, fun p h1 h2 G => ?_, fun p h1 h2 => ?_⟩
  · intro k' g' q' b' hg
    have hsp : ∀ C : List (List UInt8), secs C (H + p) (N - p) = secs C (H + p) (at_ - p) ++ secs C (H + at_) (N - at_) := fun C => by
      rw [show N - p = (at_ - p) + (N - at_) by omega, secs_split]; congr 2; omega
    have hl : ∀ C : List (List UInt8), (∀ x ∈ C, x.length = 64) → H + N ≤ C.length → (secs C (H + p) (at_ - p)).length = 64 * (at_ - p) := fun C hC hN => secs_length hC _ _ (by omega)
    have hend := getF_ends (m := at_ - p) hg (by omega) (by
      rw [hsp c', List.getElem?_append_right (by rw [hl c' h64' hN']; exact Nat.le_refl _), hl c' h64' hN', Nat.sub_self]
      intro e
      have := e2 0 (by have := sectorsF_pos body.length; omega) 2 (by simpa using e)
      exact absurd this (by decide))
    refine h k' g' q' b' (getF_pre hg hend ?_)
    rw [hsp c', hsp c, ← hl c' h64' hN', List.take_left, hl c' h64' hN', ← hl c h64 hN, List.take_left]
    exact secs_congr (fun j h1 h2 => by rw [hc, if_neg (by omega)])
  · refine noF_none (getF_mark0 ?_)
    intro e
    have hd : secs c' (H + p) (N - p) = (secs c' (H + at_) (N - at_)).drop (64 * (p - at_)) := by
      rw [secs_drop h64' _ _ _ (by omega) (by omega)]; congr 1 <;> omega
    rw [hd, List.getElem?_drop, Nat.add_zero] at e
    have := e2 (p - at_) (by omega) 1 e
    unfold markF at this
    rw [if_neg (by omega)] at this
    exact absurd this (by decide)
  · exact secs_congr (fun j h1 h2 => by rw [hc, if_neg (by omega)])
theorem followsN_img (b : List UInt8) (g N : Nat) (hN : b.length = 64 * N) (hg : g ≤ 4294967295) : ∀ (l : List (List UInt8)) (f a : Nat) (rs : List (List UInt8)) (rest : List UInt8), l.length < f → b.drop (64 * a) = recsImg g (rs.length + 1) l ++ rest →
    (∀ r ∈ l, r.length ≤ 60000) → rs.length + l.length ≤ 4294967294 → noF g rest → followsN b g f a rs = (a + recsSize l, rs ++ l)
  | [], f + 1, a, rs, rest, _, hd, _, _, hno => by
    have hd' : b.drop (64 * a) = rest := by simpa [recsImg] using hd
    rw [recsSize, List.append_nil, show a + 0 = a from rfl]
    cases hg : getF (b.drop (64 * a)) with
    | none => rw [followsN_none b g f a rs hg]
    | some x =>
      obtain ⟨k, g', q, body⟩ := x
      have := hno k g' q body (by rw [← hd']; exact hg)
      rw [followsN_stop b g f a rs k g' q body hg (by omega)]
  | r :: l, f + 1, a, rs, rest, hf, hd, hb, hq, hno => by
    rw [recsImg, List.append_assoc] at hd
    rw [List.length_cons] at hf hq
    have hr := hb r (List.mem_cons_self ..)
    have hgf : getF (b.drop (64 * a)) = some (2, g, rs.length + 1, r) := by rw [hd]; exact getF_putF 2 g _ r _ (by omega) hg (by omega) hr
    rw [followsN_go b g f a rs 2 g (rs.length + 1) r hgf ⟨rfl, rfl, rfl⟩]
    have hd2 : b.drop (64 * (a + sectorsF r.length)) = recsImg g ((rs ++ [r]).length + 1) l ++ rest := by
      rw [show 64 * (a + sectorsF r.length) = 64 * a + 64 * sectorsF r.length by omega, ← List.drop_drop, hd, ← putF_length 2 g (rs.length + 1) r, List.drop_left, List.length_append]
      rfl
    rw [followsN_img b g N hN hg l f _ (rs ++ [r]) rest (by omega) hd2 (fun x hx => hb x (List.mem_cons_of_mem _ hx)) (by rw [List.length_append, List.length_singleton]; omega) hno]
    rw [recsSize, List.append_assoc]
    simp only [List.singleton_append, Prod.mk.injEq, and_true]
    omega
end Go.Proofs.YtdfahddpkkeldaaGreat

/- Package journal: Open. -/
namespace Go.Proofs.YtdfahddpkkeldaaGreat
open Go.RowKit
theorem IsJ.fresh {w : World} {jb tb db : Nat} {down : Bool} (h : w.heap[jb]? = some (.cells #[.pointer (some ⟨tb, 0, none⟩), .pointer (some ⟨db, 0, none⟩), .bool down, .int .i64 0, .int .i64 0, .bool false, .slice none 0 0, .slice none 0 0, .int .i64 0] 118 (0, 0))) : IsJ (· = jb) w jb tb db ⟨down, false, 0, 0, 0, [], []⟩ :=
 ⟨rfl, none, 0, none, 0, h, (IsVec.nil _ _ 5 1).row, IsTexts.nil _ _⟩
def looksTo (d : DS) : Nat → JS
 | 0 => JS.fresh d
 | i + 1 => (looksTo d i).takes i (halfOf d i)
set_option maxRecDepth 100000 in
set_option maxHeartbeats 4000000 in
theorem jOpen (F : Nat → Prop) (tb db bl bm : Nat) (d : DS) (w : World) (h : IsDT F w tb db bl bm d) :
    Calls Tryz.prog 29 #[.pointer (some ⟨tb, 0, none⟩), .pointer (some ⟨db, 0, none⟩)] w fun e w' => ∃ jb, e = .returned (.pointer (some ⟨jb, 0, none⟩)) ∧ w.heap.size ≤ jb ∧ IsJD (fun k => F k ∨ w.heap.size ≤ k) w' jb tb db bl bm d.opens d ∧ Mod (· = tb) w w' := by
  refine (?_ : ∀ Post : Ending → World → Prop, Hid (∀ e w', (∃ jb, e = .returned (.pointer (some ⟨jb, 0, none⟩)) ∧ w.heap.size ≤ jb ∧ IsJD (fun k => F k ∨ w.heap.size ≤ k) w' jb tb db bl bm d.opens d ∧ Mod (· = tb) w w') → Post e w') → Calls Tryz.prog 29 #[.pointer (some ⟨tb, 0, none⟩), .pointer (some ⟨db, 0, none⟩)] w Post) _ (Lib.hid (fun _ _ h => h))
  intro Post HPOST
  obtain ⟨ht, C, hd, h4⟩ := h
  have htl := ht.lt
  have HDN : Hid (Calls Tryz.prog 54 #[.pointer (some ⟨db, 0, none⟩)] w fun e w' => e = .returned (.bool d.down) ∧ w = w') := Lib.hid (diskDown db bl bm C d w hd)
  have HEND : Hid (∀ S jb W, IsJ S W jb tb db d.opens → (∀ k, S k → w.heap.size ≤ k) → IsTab W tb → Mod (· = tb) w W → w.heap.size ≤ jb → Post (.returned (.pointer (some ⟨jb, 0, none⟩))) W) := Lib.hid (fun S jb W hj hS ht hm hjb => HPOST.out _ _ ⟨jb, rfl, hjb, IsJD.pack (S0 := fun _ => False) (C0 := C) (w0 := w) w.heap.size hj (hd.mod hm (fun k _ h e => (h4 k h).2.1 e)) ht (Nat.le_refl _) (fun _ h => h.elim) (fun k h => h4 k (h.elim False.elim id)) htl hm.size (fun k _ h => .inr (hS k h)) (fun k _ h => .inl h), hm⟩)
  obtain ⟨N, hN⟩ : ∃ N, d.lasts.length / 2 = N := ⟨_, rfl⟩
  have hNb : N ≤ 4096 := by have := hd.room; omega
  have HT := Lib.hid ht
  have HD := Lib.hid hd
  have hdbl : db < w.heap.size := (h4 db (.inl rfl)).2.2
  clear hd h4 ht
  obtain ⟨jb, hjb⟩ : ∃ jb, w.heap.size = jb := ⟨_, rfl⟩
  have HJB := Lib.hid hjb
  cases hdd : d.down with
  | true =>
    have ho : d.opens = JS.fresh d := if_pos hdd
    rw [hdd] at HDN
    go_enter Tryz.func29, Tryz.ntmps29
    go_wp2_with fail
    refine HDN.out.mono ?_
    rintro e w' ⟨rfl, rfl⟩
    go_upto_region 2 with (fail)
    generalize hw1 : World.alloc w _ = w1
    have hm1 : Mod nil w w1 := by rw [← hw1]; exact (Mod.refl _ _).alloc _
    have hb1 : w1.heap[jb]? = some (.cells #[.pointer (some ⟨tb, 0, none⟩), .pointer (some ⟨db, 0, none⟩), .bool true, .int .i64 0, .int .i64 0, .bool false, .slice none 0 0, .slice none 0 0, .int .i64 0] 118 (0, 0)) := by rw [← hw1, ← hjb]; exact heap_alloc_new _ _
    have c2 := cell_of hb1 2
    simp only [List.getElem?_toArray, List.getElem?_cons_zero, List.getElem?_cons_succ] at c2
    have HE := Lib.hid (HEND.out (· = jb) jb w1 (by rw [ho]; unfold JS.fresh; rw [hdd]; exact IsJ.fresh hb1) (fun k e => by rw [e, hjb]; exact Nat.le_refl _) (HT.out.mod hm1 (not_nil _)) hm1.ofNil (by rw [hjb]; exact Nat.le_refl _))
    clear hw1 hm1 hb1 hjb ho hdd
    go_wp2_with fail
    exact HE.out
  | false =>
    have ho : d.opens = d.looks.follows (halfOf d d.looks.half) := if_neg (by rw [hdd]; decide)
    have HDN' := HDN
    rw [hdd] at HDN
    go_enter Tryz.func29, Tryz.ntmps29
    go_wp2_with fail
    refine HDN.out.mono ?_
    rintro e w' ⟨rfl, rfl⟩
    go_upto_region 2 with (fail)
    generalize hw1 : World.alloc w _ = w1
    have hm1 : Mod nil w w1 := by rw [← hw1]; exact (Mod.refl _ _).alloc _
    have hb1 : w1.heap[jb]? = some (.cells #[.pointer (some ⟨tb, 0, none⟩), .pointer (some ⟨db, 0, none⟩), .bool false, .int .i64 0, .int .i64 0, .bool false, .slice none 0 0, .slice none 0 0, .int .i64 0] 118 (0, 0)) := by rw [← hw1, ← hjb]; exact heap_alloc_new _ _
    have c2 := cell_of hb1 2
    have c1 := cell_of hb1 1
    simp only [List.getElem?_toArray, List.getElem?_cons_zero, List.getElem?_cons_succ] at c2 c1
    have HFR : Hid (IsJ (· = jb) w1 jb tb db (JS.fresh d)) := Lib.hid (by unfold JS.fresh; rw [hdd]; exact IsJ.fresh hb1)
    have HM1 := Lib.hid hm1
    have HRD : Hid (∀ (hf : Nat) (W : World), hf ≤ 1 → Mod nil w1 W → Calls Tryz.prog 55 #[.pointer (some ⟨jb, 0, none⟩), .int .i64 hf] W fun e w' => ∃ p c, e = .returned (.slice p (64 * N) c) ∧ 64 * N ≤ c ∧ c ≤ maxLen ∧ IsRow (fun k => W.heap.size ≤ k) w' (.slice p (64 * N) c) (bys (halfOf d hf)) ∧ Mod nil W w') := Lib.hid (fun hf W hh hm => by
      refine (jRead jb db bl bm hf C d W (cell_kept c1 hm (World.block_lt_of_cell? _ _ c1) (not_nil _)) (HD.out.modNil (hm1.thenNil hm)) hh hdd).mono ?_
      rintro e w' ⟨v, rfl, hv, hm'⟩
      obtain ⟨p, c, rfl, h1, h2⟩ := vecCap hv
      have h := hv.row
      have e : sectorsAt d (hf * (d.lasts.length / 2)) (d.lasts.length / 2) = halfOf d hf := rfl
      rw [e] at h
      rw [hN] at h h1 ⊢
      exact ⟨p, c, rfl, h1, h2, h, hm'⟩)
    have HLK : Hid (∀ hf, hf ≤ 1 → (halfOf d hf).length = 64 * N) := Lib.hid (fun hf hh => by
      unfold halfOf
      rw [hN]
      exact sectorsAt_length _ _ _ (fun i hi => read_64 w db bl bm C d HD.out _ hdd (by rcases (show hf = 0 ∨ hf = 1 by omega) with rfl | rfl <;> omega)))
    have HLIM : Hid (d.looks.half ≤ 1 ∧ d.looks.at_ ≤ N ∧ d.looks.recs = []) := Lib.hid (by
      have := d.looks_lim (fun hf hh => by rw [hN]; exact HLK.out hf hh)
      rw [hN] at this
      exact ⟨this.1, this.2.1, this.2.2.1⟩)
    clear hw1 hm1 hb1 c1 hdd
    go_wp2_with fail
    have hz : (0 : Int) = ((0 : Nat) : Int) := rfl
    refine (HRD.out 0 w1 (by omega) (Mod.refl _ _)).mono ?_
    rintro e w2 ⟨p0, c0, rfl, hc0, hc0m, hr0, hm2⟩
    clear hz
    have HM2 := Lib.hid hm2
    have HR0 := Lib.hid hr0
    clear hm2 hr0
    go_wp2_with fail
    refine (HRD.out 1 w2 (by omega) HM2.out).mono ?_
    rintro e w3 ⟨p1, c1, rfl, hc1, hc1m, hr1, hm3⟩
    have HM3 := Lib.hid hm3
    have HR1 := Lib.hid hr1
    clear hm3 hr1
    go_upto_region 5 with (fail)
    obtain ⟨hb, hhb⟩ : ∃ hb, w3.heap.size = hb := ⟨_, rfl⟩
    (try rw [hhb])
    generalize hw4 : World.alloc w3 _ = w4
    have hm4 : Mod nil w3 w4 := by rw [← hw4]; exact (Mod.refl _ _).alloc _
    have hb4 : w4.heap[hb]? = some (.cells #[.slice p0 (64 * N) c0, .slice p1 (64 * N) c1] 40 (0, 0)) := by rw [← hw4, ← hhb]; exact heap_alloc_new _ _
    have h13 : w1.heap.size ≤ hb := by have := HM2.out.size; have := HM3.out.size; omega
    have hjb1 : jb < w1.heap.size := HFR.out.lt
    have htb1 : tb < w1.heap.size := Nat.lt_of_lt_of_le htl HM1.out.size
    have HROWS : Hid (∀ hf : Nat, hf ≤ 1 → ∃ p c, w4.cell? ⟨hb, hf, none⟩ = some (.slice p (64 * N) c) ∧ 64 * N ≤ c ∧ c ≤ maxLen ∧ IsRow (fun k => w1.heap.size ≤ k ∧ k < hb) w4 (.slice p (64 * N) c) (bys (halfOf d hf))) := Lib.hid (fun hf hh => by
      rcases (show hf = 0 ∨ hf = 1 by omega) with rfl | rfl
      · exact ⟨p0, c0, cell_of hb4 0, hc0, hc0m, (((HR0.out.here.modNil HM3.out).modNil hm4)).mono (fun k _ h => ⟨h.1, by have := h.2; have := HM3.out.size; omega⟩)⟩
      · exact ⟨p1, c1, cell_of hb4 1, hc1, hc1m, (HR1.out.here.modNil hm4).mono (fun k _ h => ⟨by have := h.1; have := HM2.out.size; omega, by have := h.2; omega⟩)⟩)
    have HM4 : Hid (Mod nil w1 w4) := Lib.hid ((HM2.out.thenNil HM3.out).thenNil hm4)
    have h4s : hb < w4.heap.size := heap_lt hb4
    have HFR4 : Hid (IsJ (fun k => k = jb ∨ hb < k) w4 jb tb db (looksTo d 0)) := Lib.hid ((HFR.out.modNil HM4.out).mono (fun k _ h => .inl h))
    clear hw4 hm4 hb4 HM2 HM3 HR0 HR1 HFR hc0 hc0m hc1 hc1m
    go_wp2_with fail
    go_loopw [27] (fun v27 wr => ∃ i : Nat, i ≤ 2 ∧ v27 = .int .i64 i ∧ Hid (IsJ (fun k => k = jb ∨ hb < k) wr jb tb db (looksTo d i)) ∧ Hid (IsTab wr tb) ∧ Hid (Mod (fun k => k = tb ∨ k = jb) w4 wr)) (fun v _ => 2 - (intOf v).toNat)
    case atStart => exact ⟨0, by omega, rfl, HFR4, Lib.hid ((HT.out.mod HM1.out (not_nil _)).mod HM4.out (not_nil _)), Lib.hid (Mod.refl _ _)⟩
    case round =>
      obtain ⟨i, hi, rfl, HJ, HTB, HM⟩ := hrel
      by_cases hlt : i < 2
      · obtain ⟨p, c, hc, h1, h2, h3⟩ := HROWS.out i (by omega)
        have e := cell_kept hc HM.out h4s (by omega)
        have HR := Lib.hid (h3.here.mod HM.out (fun k _ h => by have := h.1.1; omega))
        have hlt' : (i : Int) < 2 := by omega
        clear h3 hc
        go_wp2_with fail
        refine (jTakes _ _ jb tb db i _ p (64 * N) c _ wr HJ.out HTB.out HR.out (fun k h => ⟨by have := HM.out.size; omega, by have := h.1.1; omega⟩) (by omega) h1 h2).mono ?_
        rintro e w6 ⟨rfl, hj6, ht6, hm6⟩
        have HJ6 : Hid (IsJ (fun k => k = jb ∨ hb < k) w6 jb tb db (looksTo d (i + 1))) := Lib.hid (hj6.mono (fun k _ h => h.elim id (fun h => .inr (by have := HM.out.size; omega))))
        have HT6 := Lib.hid ht6
        have HM6 : Hid (Mod (fun k => k = tb ∨ k = jb) w4 w6) := Lib.hid (HM.out.trans hm6 (fun _ _ h => h))
        clear hj6 ht6 hm6
        go_wp2_with fail
        exact ⟨⟨i + 1, by omega, by go_num, HJ6, HT6, HM6⟩, by simp [intOf]; omega⟩
      · obtain rfl : i = 2 := by omega
        have hlk : looksTo d 2 = d.looks := rfl
        rw [hlk] at HJ
        clear hlk
        obtain ⟨hf, hhf⟩ : ∃ hf, d.looks.half = hf := ⟨_, rfl⟩
        rw [hhf] at ho HLIM
        obtain ⟨p, c, hc, h1, h2, h3⟩ := HROWS.out hf HLIM.out.1
        have e := cell_kept hc HM.out h4s (by omega)
        have HR := Lib.hid (h3.here.mod HM.out (fun k _ h => by have := h.1.1; omega))
        obtain ⟨pp, cp, pr, cr, q1, -, -⟩ := HJ.out.ex
        have e3 := cell_of q1 3
        simp only [List.getElem?_toArray, List.getElem?_cons_zero, List.getElem?_cons_succ] at e3
        rw [hhf] at e3
        have hf2 : (hf : Int) < 2 := by have := HLIM.out.1; omega
        have HO := Lib.hid ho
        have hszr := HM.out.size
        clear q1 h3 hc ho hhf
        simp only [Int.cast_ofNat_Int]
        go_wp2_with fail
        refine (jFollows _ _ jb tb db _ p (64 * N) c _ wr HJ.out HTB.out HR.out (fun k h => ⟨by omega, by have := h.1.1; omega, by have := h.1.1; have := h.1.2; omega⟩) (by omega) h1 h2 (by have := HLIM.out.2.1; omega) (by omega) (by rw [HLIM.out.2.2]; simp)).mono ?_
        rintro e w7 ⟨rfl, hj7, ht7, hm7⟩
        have hjb0 := HJB.out
        have HE := Lib.hid (HEND.out _ jb w7 (by rw [HO.out]; exact hj7) (fun k h => by omega) ht7 ((HM1.out.thenNil HM4.out).ofNil.trans ((HM.out.mono (T := fun k => k = tb ∨ k = jb ∨ hb < k) (fun k _ h => by omega)).trans hm7 (fun k _ h => h)) (fun k hk h => by omega)) (by omega))
        clear hj7 ht7 hm7 hjb0
        go_wp2_with fail
        exact HE.out
end Go.Proofs.YtdfahddpkkeldaaGreat

/- Package journal, plain: Append, Compact and Open keep to what the journal says, on a disk without a fuse. -/
namespace Go.Proofs.YtdfahddpkkeldaaGreat
open Go.RowKit
theorem half_room {H N n : Nat} (h : H ≤ 1) (hn : 2 * N ≤ n) : H * N + N ≤ n := by
 rcases (show H = 0 ∨ H = 1 by omega) with rfl | rfl <;> omega
/-- the other half stays -/
theorem secs_other {c c' : List (List UInt8)} {N H K at_ m : Nat} {f : Nat → Option (List UInt8)} (hH : H ≤ 1) (hK : K = 1 - H) (hat : at_ + m ≤ N) (hc : ∀ j, c'[j]? = if H * N + at_ ≤ j ∧ j < H * N + at_ + m then f j else c[j]?) (p : Nat) : secs c' (K * N + p) (N - p) = secs c (K * N + p) (N - p) := by
 subst hK
 refine secs_congr (fun j h1 h2 => ?_)
 rw [hc, if_neg]
 rcases (show H = 0 ∨ H = 1 by omega) with rfl | rfl
 ·simp at h1 h2 ⊢; omega
 ·simp at h1 h2 ⊢; omega
theorem PI.appends {d : DS} {n N : Nat} {s : JS} (hg : Good d n) (hN : n / 2 = N) (h : PI d.curs N s) (b : List UInt8) (hb : b.length ≤ 60000) (hr : s.at_ + sectorsF b.length ≤ N) :
  ∃ d', s.appends d b = ({ s with recs := s.recs ++ [b], at_ := s.at_ + sectorsF b.length }, d', 0) ∧ Good d' n ∧ d'.pend = [] ∧ PI d'.curs N { s with recs := s.recs ++ [b], at_ := s.at_ + sectorsF b.length } := by
 obtain ⟨hh, hgen, hrl, hal⟩ := h.lim
 have hn2 : 2 * N ≤ n := by rw [← hg.clen]; exact h.room.1
 have hhr := half_room hh hn2
 have hpl := putF_length 2 s.gen (s.recs.length + 1) b
 obtain ⟨l1, l2, l3, l4⟩ := hg.lays (base := s.half * N + s.at_) (m := sectorsF b.length) (b := putF 2 s.gen (s.recs.length + 1) b) (sectorsF_pos _) (by omega) hpl
 refine ⟨_, ?_, l2, l3, ?_⟩
 ·unfold JS.appends
  rw [hg.len, hN, if_neg (by rw [h.up, hg.up]; decide), if_neg (by omega), if_neg (by omega), if_pos l1]
 ·obtain ⟨o1, o2, o3, o4⟩ := over_ok (H := s.half * N) (N := N) (at_ := s.at_) rfl hr (by rw [hg.clen]; exact hhr) (by rw [l2.clen]; exact hhr) h.all64 l2.all64 l4
  have hown : ∀ G, ∀ p, s.at_ + sectorsF b.length ≤ p → p < N → noF G (secs d.curs (s.half * N + p) (N - p)) → noF G (secs (d.lays (s.half * N + s.at_) (putF 2 s.gen (s.recs.length + 1) b) (sectorsF b.length)).1.curs (s.half * N + p) (N - p)) := fun G p h1 h2 h3 => by rw [o4 p h1 h2]; exact h3
  refine ⟨h.up, ⟨hh, hgen, ?_, hr⟩, h.gen0, ⟨h.bod.1, ?_⟩, ?_, ⟨by rw [l2.clen]; exact hn2, h.room.2⟩, l2.all64, ?_, ?_, ?_, ?_⟩
  ·rw [List.length_append, List.length_singleton]; have := sectorsF_pos b.length; simp only; omega
  ·intro r hr
   rcases List.mem_append.1 hr with h1 | h1
   ·exact h.bod.2 r h1
   ·rw [List.mem_singleton.1 h1]; exact hb
  ·show s.at_ + sectorsF b.length = s.head + recsSize (s.recs ++ [b])
   rw [recsSize_snoc, h.at_]; omega
  ·show secs _ (s.half * N) (s.at_ + sectorsF b.length) = _
   rw [secs_split, o1]
   have e : secs (d.lays (s.half * N + s.at_) (putF 2 s.gen (s.recs.length + 1) b) (sectorsF b.length)).1.curs (s.half * N) s.at_ = s.img := by
    rw [← h.img]
    exact secs_congr (fun j h1 h2 => by rw [l4, if_neg (by omega)])
   rw [e]
   unfold JS.img
   simp only
   rw [recsImg_snoc, List.append_assoc, Nat.add_comm 1]
  ·intro p hp
   by_cases h1 : p < s.at_
   ·exact o2 p h1 _ (h.own1 p hp)
   ·by_cases h2 : p = s.at_
    ·subst h2
     intro k g q body hgf
     rw [show N - s.at_ = sectorsF b.length + (N - s.at_ - sectorsF b.length) by omega, secs_split, o1, getF_putF 2 s.gen (s.recs.length + 1) b _ (by omega) hgen (by have := h.room.2; omega) hb] at hgf
     simp only [Option.some.injEq, Prod.mk.injEq] at hgf
     simp only
     omega
    ·by_cases h3 : p < s.at_ + sectorsF b.length
     ·exact o3 p (by omega) h3 _
     ·exact hown _ p (by omega) hp (h.own1 p hp)
  ·intro p h1 hp
   exact hown _ p h1 hp (h.own2 p (by simp only at h1; omega) hp)
  ·intro p hp
   simp only
   rw [secs_other (f := fun j => some (sectAt (putF 2 s.gen (s.recs.length + 1) b) (j - (s.half * N + s.at_)))) hh rfl hr l4 p]
   exact h.oth p hp
theorem PI.full {d : DS} {n N : Nat} {s : JS} (hg : Good d n) (hN : n / 2 = N) (h : PI d.curs N s) (b : List UInt8) (hb : b.length ≤ 60000) (hr : ¬ s.at_ + sectorsF b.length ≤ N) : s.appends d b = (s, d, 12) := by
 unfold JS.appends
 rw [hg.len, hN, if_neg (by rw [h.up, hg.up]; decide), if_neg (by omega), if_pos (by omega)]
theorem PI.opens {d : DS} {n N : Nat} {s : JS} (hg : Good d n) (hN : n / 2 = N) (h : PI d.curs N s) : d.opens = s := by
  obtain ⟨hh, hgen, hrl, hal⟩ := h.lim
  have hn2 : 2 * N ≤ n := by rw [← hg.clen]; exact h.room.1
  have hhalf : ∀ H, H ≤ 1 → halfOf d H = secs d.curs (H * N) N := fun H hH => by
    unfold halfOf
    rw [hg.len, hN]
    exact sectorsAt_secs hg _ _ (half_room hH hn2)
  have hfr : JS.fresh d = ⟨false, false, 0, 0, 0, [], []⟩ := by unfold JS.fresh; rw [hg.up]
  have hnil : ∀ H G, H ≤ 1 → (∀ p, p < N → noF G (secs d.curs (H * N + p) (N - p))) → noF G (secs d.curs (H * N) N) := fun H G hH hno => by
    rcases Nat.eq_zero_or_pos N with h0 | h0
    · subst h0
      exact noF_none (getF_mark0 (by simp [secs]))
    · have := hno 0 h0
      rwa [Nat.add_zero, Nat.sub_zero] at this
  have hown : secs d.curs (s.half * N) N = s.img ++ secs d.curs (s.half * N + s.at_) (N - s.at_) := by
    rw [← h.img, ← secs_split]; congr 1; omega
  have hoth := hnil (1 - s.half) s.gen (by omega) h.oth
  have hrest : noF s.gen (secs d.curs (s.half * N + s.at_) (N - s.at_)) := by
    by_cases hl : s.at_ < N
    · exact h.own2 s.at_ (Nat.le_refl _) hl
    · rw [show N - s.at_ = 0 by omega]
      exact noF_none (getF_mark0 (by simp [secs]))
  have hlooks : d.looks = { s with recs := [], at_ := s.head } := by
    unfold DS.looks
    rw [hhalf 0 (by omega), hhalf 1 (by omega), hfr]
    cases hs : s.has with
    | false =>
      obtain ⟨g0, h0, p0⟩ := h.gen0 hs
      rw [h0] at hoth hown hrest
      rw [g0] at hoth hrest
      have e1 : getF (secs d.curs (1 * N) N) = none := by
        cases hx : getF (secs d.curs (1 * N) N) with
        | none => rfl
        | some x => exact absurd (hoth x.1 x.2.1 x.2.2.1 x.2.2.2 hx) (by omega)
      have t0 : (JS.mk false false 0 0 0 [] []).takes 0 (secs d.curs (0 * N) N) = ⟨false, false, 0, 0, 0, [], []⟩ := by
        unfold JS.takes
        cases hrs : s.recs with
        | nil =>
          have : getF (secs d.curs (0 * N) N) = none := by
            rw [hown, JS.img, hs, hrs]
            simp only [Bool.false_eq_true, ↓reduceIte, recsImg, List.append_nil, List.nil_append]
            cases hx : getF (secs d.curs (0 * N + s.at_) (N - s.at_)) with
            | none => rfl
            | some x => exact absurd (hrest x.1 x.2.1 x.2.2.1 x.2.2.2 hx) (by omega)
          rw [this]
        | cons r l =>
          have : getF (secs d.curs (0 * N) N) = some (2, s.gen, 1, r) := by
            rw [hown, JS.img, hs, hrs]
            simp only [Bool.false_eq_true, ↓reduceIte, recsImg, List.nil_append]
            rw [List.append_assoc]
            exact getF_putF 2 s.gen 1 r _ (by omega) hgen (by omega) (h.bod.2 r (by rw [hrs]; exact List.mem_cons_self ..))
          rw [this]
          exact if_neg (by omega)
      rw [t0]
      unfold JS.takes
      rw [e1]
      unfold JS.head
      rw [hs, h.up, g0, h0, p0]
      rfl
    | true =>
      have hog : ∀ H, H = s.half → getF (secs d.curs (H * N) N) = some (1, s.gen, 0, s.pict) := fun H hH => by
        rw [hH, hown, JS.img, hs, if_pos rfl, List.append_assoc]
        exact getF_putF 1 s.gen 0 s.pict _ (by omega) hgen (by omega) h.bod.1
      have hhd : s.head = sectorsF s.pict.length := by unfold JS.head; rw [hs]; rfl
      rw [hhd]
      rcases (show s.half = 0 ∨ s.half = 1 by omega) with e | e
      · have t0 : (JS.mk false false 0 0 0 [] []).takes 0 (secs d.curs (0 * N) N) = ⟨false, true, 0, s.gen, sectorsF s.pict.length, s.pict, []⟩ := by
          unfold JS.takes
          rw [hog 0 e.symm]
          exact if_pos ⟨rfl, rfl, fun x => by simp at x⟩
        rw [t0]
        unfold JS.takes
        rw [e] at hoth
        cases hx : getF (secs d.curs (1 * N) N) with
        | none => simp only; rw [h.up, e]
        | some x =>
          obtain ⟨k, g, q, body⟩ := x
          have := hoth k g q body hx
          simp only
          rw [if_neg (fun x => x.2.2 ⟨trivial, by omega⟩), h.up, e]
      · rw [e] at hoth
        have t0 : ∃ ha g a p, (JS.mk false false 0 0 0 [] []).takes 0 (secs d.curs (0 * N) N) = ⟨false, ha, 0, g, a, p, []⟩ ∧ (ha = true → g < s.gen) := by
          unfold JS.takes
          cases hx : getF (secs d.curs (0 * N) N) with
          | none => exact ⟨_, _, _, _, rfl, fun x => by simp at x⟩
          | some x =>
            obtain ⟨k, g, q, body⟩ := x
            have := hoth k g q body hx
            simp only
            split
            · exact ⟨_, _, _, _, rfl, fun _ => this⟩
            · exact ⟨_, _, _, _, rfl, fun x => by simp at x⟩
        obtain ⟨ha, g, a, p, t0, t1⟩ := t0
        rw [t0]
        unfold JS.takes
        rw [hog 1 e.symm]
        simp only
        rw [if_pos ⟨trivial, trivial, fun x => by have := t1 x.1; omega⟩, h.up, e]
  unfold DS.opens
  rw [if_neg (by rw [hg.up]; decide), hlooks]
  have hlen : (secs d.curs (s.half * N) N).length = 64 * N := secs_length h.all64 _ _ (by rw [hg.clen]; exact half_room hh hn2)
  have hsz := h.at_
  have hrs := recsSize_len s.recs
  have himg : (secs d.curs (s.half * N) N).drop (64 * s.head) = recsImg s.gen (([] : List (List UInt8)).length + 1) s.recs ++ secs d.curs (s.half * N + s.at_) (N - s.at_) := by
    rw [hown, JS.img]
    cases hs : s.has with
    | false => simp [JS.head, hs]
    | true =>
      simp only [JS.head, hs, ↓reduceIte]
      rw [List.append_assoc, ← putF_length 1 s.gen 0 s.pict, List.drop_left]
      rfl
  have hf := followsN_img (secs d.curs (s.half * N) N) s.gen N hlen hgen s.recs (N - s.head + 1) s.head [] _ (by omega) himg h.bod.2 (by have := h.room.2; simp only [List.length_nil]; omega) hrest
  unfold JS.follows
  simp only
  rw [hhalf s.half hh, hlen, Nat.mul_div_cancel_left _ (by omega : 0 < 64), hf, List.nil_append, ← hsz]
end Go.Proofs.YtdfahddpkkeldaaGreat

/- cfllaw8: a journal that a statement plays with; the disk that is new; first. -/
namespace Go.Proofs.YtdfahddpkkeldaaGreat
open Go.RowKit
theorem mem_secs {c : List (List UInt8)} {base k : Nat} {x : UInt8} (h : x ∈ secs c base k) : ∃ l ∈ c, x ∈ l := by
 unfold secs at h
 obtain ⟨l, h1, h2⟩ := List.mem_flatten.1 h
 exact ⟨l, List.mem_of_mem_drop (List.mem_of_mem_take h1), h2⟩
theorem freshDisk_good (n : Nat) : Good (freshDisk n) n := by
 have hc : (freshDisk n).curs = List.replicate n zeros64 := curs_none _ _ _
 refine ⟨rfl, rfl, by simp [freshDisk], ?_⟩
 rw [hc]
 intro x hx
 rw [(List.mem_replicate.1 hx).2]
 simp [zeros64]
theorem freshDisk_PI (n N : Nat) (hN : n / 2 = N) (hn : n ≤ 8192) : PI (freshDisk n).curs N (JS.fresh (freshDisk n)) := by
  have hg := freshDisk_good n
  have hc : (freshDisk n).curs = List.replicate n zeros64 := curs_none _ _ _
  have hz : ∀ G base k, noF G (secs (freshDisk n).curs base k) := fun G base k => noF_none (getF_mark0 (fun e => by
    have hm := List.mem_of_getElem? e
    rw [hc] at hm
    obtain ⟨l, h1, h2⟩ := mem_secs hm
    rw [(List.mem_replicate.1 h1).2] at h2
    have := (List.mem_replicate.1 h2).2
    exact absurd this (by decide)))
  exact ⟨rfl, ⟨Nat.zero_le _, Nat.zero_le _, Nat.le_refl _, Nat.zero_le _⟩, fun _ => ⟨rfl, rfl, rfl⟩, ⟨Nat.zero_le _, fun r hr => by simp [JS.fresh] at hr⟩, rfl, ⟨by rw [hg.clen]; omega, by omega⟩, hg.all64, by simp [JS.fresh, secs, JS.img, recsImg], fun p _ => hz _ _ _, fun p _ _ => hz _ _ _, fun p _ => hz _ _ _⟩
theorem IsDT.of {F C : Nat → Prop} {w : World} {tb db bl bm : Nat} {d : DS} (hd : IsDisk w db bl bm C d) (ht : IsTab w tb) (hC : ∀ k, foot db bl bm C k → k < w.heap.size → F k ∧ k ≠ tb) : IsDT F w tb db bl bm d := by
 obtain ⟨vl, h1, _⟩ := hd.lasts
 obtain ⟨vm, h4, _⟩ := hd.pend
 have a1 := heap_lt hd.obj
 have a2 := heap_lt h1
 have a3 := h4.lt
 refine ⟨ht, _, hd.here, fun k hk => ?_⟩
 have hlt : k < w.heap.size := by
  rcases hk with h | h | h | h
  ·omega
  ·omega
  ·omega
  ·exact h.2
 have hf : foot db bl bm C k := by
  rcases hk with h | h | h | h
  ·exact .inl h
  ·exact .inr (.inl h)
  ·exact .inr (.inr (.inl h))
  ·exact .inr (.inr (.inr h.1))
 exact ⟨(hC k hf hlt).1, (hC k hf hlt).2, hlt⟩
/-- the journal's methods that only tell, by IsJD -/
theorem jdPicture {F : Nat → Prop} {jb tb db bl bm : Nat} {s : JS} {d : DS} {w : World} (h : IsJD F w jb tb db bl bm s d) (hl : s.pict.length ≤ 60000) :
  Calls Tryz.prog 30 #[.pointer (some ⟨jb, 0, none⟩)] w fun e w' => ∃ p c, e = .returned (.tuple #[.slice p s.pict.length c, .bool s.has]) ∧ IsVec (fun k => w.heap.size ≤ k) w' 5 1 (.slice p s.pict.length c) s.pict.length (bys s.pict) ∧ Mod nil w w' := by
 obtain ⟨S, C, hj, -⟩ := h.ex
 exact jPicture S jb tb db s w hj hl
theorem jdRecordsC {F : Nat → Prop} {jb tb db bl bm : Nat} {s : JS} {d : DS} {w : World} (h : IsJD F w jb tb db bl bm s d) (hl : ∀ r ∈ s.recs, r.length ≤ 60000) (hn : s.recs.length ≤ 100000) :
  Calls Tryz.prog 31 #[.pointer (some ⟨jb, 0, none⟩)] w fun e w' => ∃ p c, e = .returned (.slice p s.recs.length c) ∧ IsTextsC (fun k => w.heap.size ≤ k) w' (.slice p s.recs.length c) s.recs.length s.recs ∧ Mod nil w w' := by
 obtain ⟨S, C, hj, hd, -⟩ := h.ex
 refine (jRecords S jb tb db s w hj hl hn).mono ?_
 rintro e w' ⟨v, rfl, hv, hm⟩
 obtain ⟨p, c, rfl⟩ := hv.form
 exact ⟨p, c, rfl, hv, hm⟩
end Go.Proofs.YtdfahddpkkeldaaGreat
