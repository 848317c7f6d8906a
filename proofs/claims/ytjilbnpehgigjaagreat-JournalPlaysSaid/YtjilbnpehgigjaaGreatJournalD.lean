/- Package journal: follows. -/
import Derived.Test.YtjilbnpehgigjaaGreatShort
import Derived.Test.YtjilbnpehgigjaaGreatJournalC
import Derived.Test.YtjilbnpehgigjaaGreatRefDec
import Derived.Deep.LoopGhost
namespace Go.Proofs.YtjilbnpehgigjaaGreat
open Go.RowKit
/-- what Get tells, in one form -/
def GotR (b : List UInt8) (kind gen seq : Nat) (pq : Option Addr) (lq cq n : Nat) (er : Int) (w w' : World) : Prop :=
  (getF b = none ∧ er = 2) ∨ (∃ body, getF b = some (kind, gen, seq, body) ∧ er = 0 ∧ n = sectorsF body.length ∧ lq = body.length ∧ IsVec (fun k => w.heap.size ≤ k) w' 5 1 (.slice pq lq cq) lq (bys body))
theorem GotR.mod {b : List UInt8} {kind gen seq : Nat} {pq : Option Addr} {lq cq n : Nat} {er : Int} {w0 w w' w2 : World} {T : Nat → Prop} (h : GotR b kind gen seq pq lq cq n er w w') (m : Mod T w' w2) (hs : ∀ k, k < w'.heap.size → w.heap.size ≤ k → ¬ T k) (hw : w0.heap.size ≤ w.heap.size) : GotR b kind gen seq pq lq cq n er w0 w2 := by
  rcases h with ⟨h1, h2⟩ | ⟨body, h1, h2, h3, h4, h5⟩
  · exact .inl ⟨h1, h2⟩
  · exact .inr ⟨body, h1, h2, h3, h4, (h5.mod m hs).mono (fun k _ h => Nat.le_trans hw h)⟩
theorem frameGet1 (tb : Nat) (T : Nat → Prop) (p : Option Addr) (len cap : Nat) (b : List UInt8) (w : World) (ht : IsTab w tb) (hrow : IsRow T w (.slice p len cap) (bys b)) (hT : ∀ k, T k → k < w.heap.size ∧ k ≠ tb) (hcap : len ≤ cap) (hcm : cap ≤ maxLen) :
    Calls Tryz.prog 56 #[.pointer (some ⟨tb, 0, none⟩), .slice p len cap] w fun e w' => ∃ (kind gen seq : Nat) (pq : Option Addr) (lq cq n : Nat) (er : Int), e = .returned (.tuple #[.agg #[.int .i64 (kind : Nat), .int .i64 (gen : Nat), .int .i64 (seq : Nat), .slice pq lq cq], .int .i64 n, .int .i64 er]) ∧ GotR b kind gen seq pq lq cq n er w w' ∧ IsTab w' tb ∧ Mod (· = tb) w w' := by
  refine (frameGet tb T p len cap b w ht hrow hT hcap hcm).mono ?_
  rintro e w' ⟨ht1, hm1, ⟨hnone, rfl⟩ | ⟨kind, gen, seq, body, q, c, hsome, rfl, hv⟩⟩
  · exact ⟨0, 0, 0, none, 0, 0, 0, 2, rfl, .inl ⟨hnone, rfl⟩, ht1, hm1⟩
  · exact ⟨kind, gen, seq, q, body.length, c, sectorsF body.length, 0, rfl, .inr ⟨body, hsome, rfl, rfl, rfl, hv⟩, ht1, hm1⟩
theorem getF_fits (b : List UInt8) (k g q : Nat) (body : List UInt8) (h : getF b = some (k, g, q, body)) : 64 * sectorsF body.length ≤ b.length ∧ 1 ≤ sectorsF body.length ∧ sectorsF body.length ≤ 1000 ∧ body.length ≤ 60000 := by
  unfold getF at h
  split at h
  · rename_i hc
    obtain ⟨-, h2, h3, -⟩ := hc
    simp only [Option.some.injEq, Prod.mk.injEq] at h
    obtain ⟨-, -, -, hb⟩ := h
    generalize (headF b).2.2.2 = nn at h2 h3 hb
    have hl : 64 * sectorsF nn ≤ b.length := by unfold liftOk at h3; rw [Bool.and_eq_true, decide_eq_true_eq] at h3; exact h3.1
    have hs : 24 + nn ≤ 63 * sectorsF nn ∧ 1 ≤ sectorsF nn ∧ sectorsF nn ≤ 1000 := by unfold sectorsF; omega
    have hbl : body.length = nn := by rw [← hb, List.length_take, List.length_drop, tailsTo_length b _ hl]; omega
    rw [hbl]
    omega
  · cases h
/-- the records from a place on -/
def followsN (b : List UInt8) (gen : Nat) : Nat → Nat → List (List UInt8) → Nat × List (List UInt8)
  | 0, a, rs => (a, rs)
  | f + 1, a, rs => match getF (b.drop (64 * a)) with
    | some (k, g, q, body) => if k = 2 ∧ g = gen ∧ q = rs.length + 1 then followsN b gen f (a + sectorsF body.length) (rs ++ [body]) else (a, rs)
    | none => (a, rs)
theorem followsN_none (b : List UInt8) (gen f a : Nat) (rs : List (List UInt8)) (h : getF (b.drop (64 * a)) = none) : followsN b gen (f + 1) a rs = (a, rs) := by unfold followsN; rw [h]
theorem followsN_stop (b : List UInt8) (gen f a : Nat) (rs : List (List UInt8)) (k g q : Nat) (body : List UInt8) (h : getF (b.drop (64 * a)) = some (k, g, q, body)) (hn : ¬ (k = 2 ∧ g = gen ∧ q = rs.length + 1)) : followsN b gen (f + 1) a rs = (a, rs) := by unfold followsN; rw [h]; exact if_neg hn
theorem followsN_go (b : List UInt8) (gen f a : Nat) (rs : List (List UInt8)) (k g q : Nat) (body : List UInt8) (h : getF (b.drop (64 * a)) = some (k, g, q, body)) (hn : k = 2 ∧ g = gen ∧ q = rs.length + 1) : followsN b gen (f + 1) a rs = followsN b gen f (a + sectorsF body.length) (rs ++ [body]) := by rw [followsN, h]; exact if_pos hn
def JS.follows (s : JS) (b : List UInt8) : JS :=
  { s with at_ := (followsN b s.gen (b.length / 64 - s.at_ + 1) s.at_ s.recs).1, recs := (followsN b s.gen (b.length / 64 - s.at_ + 1) s.at_ s.recs).2 }
set_option maxRecDepth 100000 in
set_option maxHeartbeats 16000000 in
theorem jFollows (S T : Nat → Prop) (jb tb db : Nat) (s : JS) (p : Option Addr) (len cap : Nat) (b : List UInt8) (w : World) (hj : IsJ S w jb tb db s) (ht : IsTab w tb) (hrow : IsRow T w (.slice p len cap) (bys b)) (hT : ∀ k, T k → k < w.heap.size ∧ k ≠ tb ∧ ¬ S k) (hS : ¬ S tb) (hcap : len ≤ cap) (hcm : cap ≤ maxLen)
    (hat : 64 * s.at_ ≤ len) (hlen : len ≤ 262144) (hrecs : s.recs.length ≤ 100000) :
    Calls Tryz.prog 33 #[.pointer (some ⟨jb, 0, none⟩), .slice p len cap] w fun e w' => e = .returned (.tuple #[]) ∧ IsJ (fun k => S k ∨ w.heap.size ≤ k) w' jb tb db (s.follows b) ∧ IsTab w' tb ∧ Mod (fun k => k = tb ∨ S k) w w' := by
  refine (?_ : ∀ Post : Ending → World → Prop, Hid (∀ e w', (e = .returned (.tuple #[]) ∧ IsJ (fun k => S k ∨ w.heap.size ≤ k) w' jb tb db (s.follows b) ∧ IsTab w' tb ∧ Mod (fun k => k = tb ∨ S k) w w') → Post e w') → Calls Tryz.prog 33 #[.pointer (some ⟨jb, 0, none⟩), .slice p len cap] w Post) _ (Lib.hid (fun _ _ h => h))
  intro Post HPOST
  have hjt : jb ≠ tb := fun e => hS (e ▸ hj.own)
  have hbl : b.length = len := by
    obtain ⟨_, _, h, _⟩ := hrow
    simp only [Value.slice.injEq, bys_length] at h
    exact h.2.1.symm
  have HBL := Lib.hid hbl
  have HROW := Lib.hid hrow
  have HTT := Lib.hid hT
  have HJ := Lib.hid hj
  have HT := Lib.hid ht
  have htl := ht.lt
  obtain ⟨N, hN⟩ : ∃ N, len / 64 = N := ⟨_, rfl⟩
  have hNb : N ≤ 4096 ∧ s.at_ ≤ N ∧ (∀ a, a ≤ N → 64 * a ≤ len) ∧ (∀ a, 64 * a ≤ len → a ≤ N) := by
    refine ⟨by omega, by omega, fun a h => by omega, fun a h => by omega⟩
  obtain ⟨R, hR⟩ : ∃ R, followsN b s.gen (N - s.at_ + 1) s.at_ s.recs = R := ⟨_, rfl⟩
  have HR := Lib.hid hR
  have HFIN : Hid (s.follows b = { s with at_ := R.1, recs := R.2 }) := Lib.hid (by unfold JS.follows; rw [hbl, hN, hR])
  have HNB := Lib.hid hNb.2.2
  obtain ⟨hN4, hatN, -⟩ := hNb
  clear hrow hT hj ht hbl hN hR hat
  go_enter Tryz.func33, Tryz.ntmps33
  go_wp2_with fail
  go_loopg [] (N - s.at_ + 1) (fun f wr => ∃ (a : Nat) (rs : List (List UInt8)), a ≤ N ∧ rs.length ≤ 100000 + a ∧ Hid (N - a + 1 ≤ f) ∧ Hid (followsN b s.gen f a rs = R) ∧ Hid (IsJ (fun k => S k ∨ w.heap.size ≤ k) wr jb tb db { s with at_ := a, recs := rs }) ∧ Hid (IsTab wr tb) ∧ Hid (Mod (fun k => k = tb ∨ S k) w wr))
  case atStart => exact ⟨s.at_, s.recs, hatN, by omega, Lib.hid (Nat.le_refl _), HR, Lib.hid (HJ.out.mono (fun _ _ h => .inl h)), HT, Lib.hid (Mod.refl _ _)⟩
  case round =>
    obtain ⟨at_, rs, ha, hrs, HF, HRR0, HJR, HTR, HMR⟩ := hrel
    obtain ⟨gf, hgf⟩ : ∃ gf, gk = gf + 1 := ⟨gk - 1, by have := HF.out; omega⟩
    have HRR : Hid (followsN b s.gen (gf + 1) at_ rs = R) := Lib.hid (by rw [← hgf]; exact HRR0.out)
    have HGF := Lib.hid hgf
    clear hgf HRR0
    obtain ⟨pp, cp, pr, cr, h1, h2, h3⟩ := HJR.out.ex
    simp only at h1 h2 h3
    obtain ⟨X, hX⟩ : ∃ X, 64 * at_ = X := ⟨_, rfl⟩
    have hXl : X ≤ len := by rw [← hX]; exact HNB.out.1 at_ ha
    have hrw : IsRow T wr (.slice p len cap) (bys b) := HROW.out.mod HMR.out (fun k _ h e => by have := HTT.out k h; rcases e with e | e; exact this.2.1 e; exact this.2.2 e)
    obtain ⟨p2, hsl, hrowsl⟩ := slice_from T p len cap X b wr hrw hXl hcap
    have hmul : IntKind.i64.wrap ((at_ : Int) * 64) = (X : Int) := by rw [IntKind.wrap_i64]; omega
    have HGET : Hid (∀ W, Mod nil wr W → Calls Tryz.prog 56 #[.pointer (some ⟨tb, 0, none⟩), .slice p2 (len - X) (cap - X)] W fun e w' => ∃ (kind gen seq : Nat) (pq : Option Addr) (lq cq n : Nat) (er : Int), e = .returned (.tuple #[.agg #[.int .i64 (kind : Nat), .int .i64 (gen : Nat), .int .i64 (seq : Nat), .slice pq lq cq], .int .i64 n, .int .i64 er]) ∧ GotR (b.drop X) kind gen seq pq lq cq n er W w' ∧ IsTab w' tb ∧ Mod (· = tb) W w') := Lib.hid (fun W m =>
      frameGet1 tb T p2 (len - X) (cap - X) (b.drop X) W (HTR.out.mod m (not_nil _)) (hrowsl W (hrw.modNil m)) (fun k h => ⟨by have := HTT.out k h; have := HMR.out.size; have := m.size; omega, (HTT.out k h).2.1⟩) (by omega) (by omega))
    have c0 := cell_of h1 0
    have c8 := cell_of h1 8
    simp only [List.getElem?_toArray, List.getElem?_cons_zero, List.getElem?_cons_succ] at c0 c8
    have hjl := heap_lt h1
    have HB := Lib.hid h1
    have HP := Lib.hid h2
    have HRS := Lib.hid h3
    have HX := Lib.hid hX
    have htw : tb < wr.heap.size := by have := HMR.out.size; omega
    clear h1 h2 h3 hrw hrowsl hX
    go_upto_region 0 with (fail)
    go_cut [4, 5, 6] from 69 (fun s4 s5 s6 wc => ∃ (F kind gen seq : Nat) (pq : Option Addr) (lq cq n : Nat) (er : Int), s4 = .pointer (some ⟨F, 0, none⟩) ∧ s5 = .int .i64 n ∧ s6 = .int .i64 er ∧ wr.heap.size ≤ F ∧ wc.heap[F]? = some (.cells #[.int .i64 (kind : Nat), .int .i64 (gen : Nat), .int .i64 (seq : Nat), .slice pq lq cq] 37 (0, 0)) ∧ GotR (b.drop X) kind gen seq pq lq cq n er wr wc ∧ IsTab wc tb ∧ Mod (· = tb) wr wc)
    case first => as_aux_lemma =>
      refine wp_region_held_drew (S := fun w' => w'.cell? ⟨jb, 0, none⟩ = some (.pointer (some ⟨tb, 0, none⟩)) ∧ w'.cell? ⟨jb, 8, none⟩ = some (.int .i64 at_)) (by kernel_rfl) (⟨c0, c8⟩) (fun hHeld => ?_)
      refine tH 0 ?_
      (try simp only [Act.put, pT])
      refine tH 1 ?_
      (try simp only [Act.put, pT])
      refine tH 2 ?_
      (try simp only [Act.put, pT])
      refine tH 3 ?_
      (try simp only [Act.put, pT])
      refine tH 4 ?_
      (try simp only [Act.put, pT])
      refine tH 5 ?_
      (try simp only [Act.put, pT])
      refine tH 6 ?_
      (try simp only [Act.put, pT])
      refine tH 7 ?_
      (try simp only [Act.put, pT])
      refine tH 8 ?_
      (try simp only [Act.put, pT])
      refine tH 9 ?_
      (try simp only [Act.put, pT])
      refine tH 10 ?_
      (try simp only [Act.put, pT])
      refine wpAnyH_ready (rs := [11, 16]) (by kernel_rfl) (by simp) ?_
      refine AllReadyH.cons (i := 11) rfl (fun K hK => ?_) ?_
      · (try dsimp (config := { proj := false }) only [g0, g1, g2])
        go_simp
        refine (HGET.out _ ?_).mono ?_
        · (repeat (first | refine Mod.drew ?_ | refine Mod.alloc ?_ _)); exact Mod.refl nil wr
        rintro e w1 ⟨kind, gen, seq, pq, lq, cq, n, er, rfl, hgot, ht1, hm1⟩
        have hmw : Mod (· = tb) wr w1 := (show Mod nil wr _ from by (repeat (first | refine Mod.drew ?_ | refine Mod.alloc ?_ _)); exact Mod.refl nil wr).ofNil.trans hm1 (fun _ _ h => h)
        have k0 := cell_kept c0 hmw hjl hjt
        have k8 := cell_kept c8 hmw hjl hjt
        have hjl1 := World.block_lt_of_cell? _ _ k0
        have ka0 : ∀ ob, (w1.alloc ob).cell? ⟨jb, 0, none⟩ = _ := fun ob => cell_kept k0 ((Mod.refl nil w1).alloc ob) hjl1 (not_nil _)
        have ka8 : ∀ ob, (w1.alloc ob).cell? ⟨jb, 8, none⟩ = _ := fun ob => cell_kept k8 ((Mod.refl nil w1).alloc ob) hjl1 (not_nil _)
        refine hK.out _ _ ⟨k0, k8⟩ (fun hHeld => ?_)
        clear hK K
        (try simp only [Act.put, pT])
        refine tH 12 ?_
        (try simp only [Act.put, pT])
        refine tH 13 ?_
        (try simp only [Act.put, pT])
        refine tH 14 ?_
        (try simp only [Act.put, pT])
        refine tH 15 ?_
        (try simp only [Act.put, pT])
        refine wpAnyH_ready (rs := [16]) (by kernel_rfl) (by simp) ?_
        refine AllReadyH.cons (i := 16) rfl (fun K hK => ?_) AllReadyH.nil
        (try dsimp (config := { proj := false }) only [g0, g1, g2])
        go_simp
        refine hK.out _ _ ⟨ka0 _, ka8 _⟩ (fun hHeld => ?_)
        clear hK K
        (try simp only [Act.put, pT])
        refine wpAnyH_ready (rs := [17]) (by kernel_rfl) (by simp) ?_
        refine AllReadyH.cons (i := 17) rfl (fun K hK => ?_) AllReadyH.nil
        (try dsimp (config := { proj := false }) only [g0, g1, g2])
        go_simp
        refine hK.out _ _ ⟨ka0 _, ka8 _⟩ (fun hHeld => ?_)
        clear hK K
        (try simp only [Act.put, pT])
        refine wpAnyH_ready (rs := [18]) (by kernel_rfl) (by simp) ?_
        refine AllReadyH.cons (i := 18) rfl (fun K hK => ?_) AllReadyH.nil
        (try dsimp (config := { proj := false }) only [g0, g1, g2])
        go_simp
        refine hK.out _ _ ⟨ka0 _, ka8 _⟩ (fun hHeld => ?_)
        clear hK K
        (try simp only [Act.put, pT])
        refine wpAnyH_ready (rs := [19]) (by kernel_rfl) (by simp) ?_
        refine AllReadyH.cons (i := 19) rfl (fun K hK => ?_) AllReadyH.nil
        (try dsimp (config := { proj := false }) only [g0, g1, g2])
        go_simp
        refine hK.out _ _ ⟨ka0 _, ka8 _⟩ (fun hHeld => ?_)
        clear hK K
        (try simp only [Act.put, pT])
        refine wpAnyH_done (by kernel_rfl) ?_ _
        go_wp2_with fail
        go_meet
        have hma : Mod nil w1 (w1.alloc (.cells #[.int .i64 kind, .int .i64 gen, .int .i64 seq, .slice pq lq cq] 37)) := (Mod.refl nil w1).alloc _
        refine ⟨w1.heap.size, kind, gen, seq, pq, lq, cq, n, er, rfl, rfl, rfl, hmw.size, heap_alloc_new _ _, ?_, ht1.mod hma (not_nil _), hmw.thenNil hma⟩
        exact hgot.mod hma (fun _ _ _ => not_nil _) (Nat.le_refl _)
      refine AllReadyH.cons (i := 16) rfl (fun K hK => ?_) AllReadyH.nil
      (try dsimp (config := { proj := false }) only [g0, g1, g2])
      go_simp
      have ka0 : ∀ ob, (wr.alloc ob).cell? ⟨jb, 0, none⟩ = _ := fun ob => cell_kept c0 ((Mod.refl nil wr).alloc ob) hjl (not_nil _)
      have ka8 : ∀ ob, (wr.alloc ob).cell? ⟨jb, 8, none⟩ = _ := fun ob => cell_kept c8 ((Mod.refl nil wr).alloc ob) hjl (not_nil _)
      refine hK.out _ _ ⟨ka0 _, ka8 _⟩ (fun hHeld => ?_)
      clear hK K
      (try simp only [Act.put, pT])
      refine wpAnyH_ready (rs := [11]) (by kernel_rfl) (by simp) ?_
      refine AllReadyH.cons (i := 11) rfl (fun K hK => ?_) AllReadyH.nil
      (try dsimp (config := { proj := false }) only [g0, g1, g2])
      go_simp
      refine (HGET.out _ ?_).mono ?_
      · (repeat (first | refine Mod.drew ?_ | refine Mod.alloc ?_ _)); exact Mod.refl nil wr
      rintro e w1 ⟨kind, gen, seq, pq, lq, cq, n, er, rfl, hgot, ht1, hm1⟩
      have hmw : Mod (· = tb) wr w1 := (show Mod nil wr _ from by (repeat (first | refine Mod.drew ?_ | refine Mod.alloc ?_ _)); exact Mod.refl nil wr).ofNil.trans hm1 (fun _ _ h => h)
      have k0 := cell_kept c0 hmw hjl hjt
      have k8 := cell_kept c8 hmw hjl hjt
      have hjl1 := World.block_lt_of_cell? _ _ k0
      have hF0 : (wr.alloc (.cells #[.int .i64 0, .int .i64 0, .int .i64 0, .slice none 0 0] 37)).heap[wr.heap.size]? = some (.cells #[.int .i64 0, .int .i64 0, .int .i64 0, .slice none 0 0] 37 (0, 0)) := heap_alloc_new _ _
      have hF1 : w1.heap[wr.heap.size]? = some (.cells #[.int .i64 0, .int .i64 0, .int .i64 0, .slice none 0 0] 37 (0, 0)) := (hm1.block wr.heap.size (heap_lt hF0) (by omega)).trans hF0
      have y0 := cell_of hF1 0
      have y1 := cell_of hF1 1
      have y2 := cell_of hF1 2
      have y3 := cell_of hF1 3
      simp only [List.getElem?_toArray, List.getElem?_cons_zero, List.getElem?_cons_succ] at y0 y1 y2 y3
      have x0 := free_of hF1 0
      have x1 := free_of hF1 1
      have x2 := free_of hF1 2
      have x3 := free_of hF1 3
      have hmS : ∀ a b' c' d', Mod (· = wr.heap.size) w1 ((((w1.setCell ⟨wr.heap.size, 0, none⟩ a).setCell ⟨wr.heap.size, 1, none⟩ b').setCell ⟨wr.heap.size, 2, none⟩ c').setCell ⟨wr.heap.size, 3, none⟩ d') := fun a b' c' d' => ((((Mod.refl (· = wr.heap.size) w1).setCell _ _ (fun _ => rfl)).setCell _ _ (fun _ => rfl)).setCell _ _ (fun _ => rfl)).setCell _ _ (fun _ => rfl)
      have kb0 : ∀ a b' c' d', ((((w1.setCell ⟨wr.heap.size, 0, none⟩ a).setCell ⟨wr.heap.size, 1, none⟩ b').setCell ⟨wr.heap.size, 2, none⟩ c').setCell ⟨wr.heap.size, 3, none⟩ d').cell? ⟨jb, 0, none⟩ = _ := fun a b' c' d' => cell_kept k0 (hmS a b' c' d') hjl1 (show ¬ jb = wr.heap.size by omega)
      have kb8 : ∀ a b' c' d', ((((w1.setCell ⟨wr.heap.size, 0, none⟩ a).setCell ⟨wr.heap.size, 1, none⟩ b').setCell ⟨wr.heap.size, 2, none⟩ c').setCell ⟨wr.heap.size, 3, none⟩ d').cell? ⟨jb, 8, none⟩ = _ := fun a b' c' d' => cell_kept k8 (hmS a b' c' d') hjl1 (show ¬ jb = wr.heap.size by omega)
      have HMS := Lib.hid hmS
      have HGOT := Lib.hid hgot
      have HF1 := Lib.hid hF1
      have HMW := Lib.hid hmw
      have HT1 := Lib.hid ht1
      clear hmS hgot hF1 hF0 hm1 hmw ht1
      refine hK.out _ _ ⟨k0, k8⟩ (fun hHeld => ?_)
      clear hK K
      (try simp only [Act.put, pT])
      refine tH 12 ?_
      (try simp only [Act.put, pT])
      refine tH 13 ?_
      (try simp only [Act.put, pT])
      refine tH 14 ?_
      (try simp only [Act.put, pT])
      refine tH 15 ?_
      (try simp only [Act.put, pT])
      refine wpAnyH_ready (rs := [17]) (by kernel_rfl) (by simp) ?_
      refine AllReadyH.cons (i := 17) rfl (fun K hK => ?_) AllReadyH.nil
      (try dsimp (config := { proj := false }) only [g0, g1, g2])
      go_simp
      refine hK.out _ _ ⟨kb0 _ _ _ _, kb8 _ _ _ _⟩ (fun hHeld => ?_)
      clear hK K
      (try simp only [Act.put, pT])
      refine wpAnyH_ready (rs := [18]) (by kernel_rfl) (by simp) ?_
      refine AllReadyH.cons (i := 18) rfl (fun K hK => ?_) AllReadyH.nil
      (try dsimp (config := { proj := false }) only [g0, g1, g2])
      go_simp
      refine hK.out _ _ ⟨kb0 _ _ _ _, kb8 _ _ _ _⟩ (fun hHeld => ?_)
      clear hK K
      (try simp only [Act.put, pT])
      refine wpAnyH_ready (rs := [19]) (by kernel_rfl) (by simp) ?_
      refine AllReadyH.cons (i := 19) rfl (fun K hK => ?_) AllReadyH.nil
      (try dsimp (config := { proj := false }) only [g0, g1, g2])
      go_simp
      refine hK.out _ _ ⟨kb0 _ _ _ _, kb8 _ _ _ _⟩ (fun hHeld => ?_)
      clear hK K
      (try simp only [Act.put, pT])
      refine wpAnyH_done (by kernel_rfl) ?_ _
      go_wp2_with fail
      go_meet
      have g1 := heap_setCell_same HF1.out (.int .i64 kind) (off := 0)
      simp only [List.setIfInBounds_toArray, List.set_cons_succ, List.set_cons_zero] at g1
      have g2 := heap_setCell_same g1 (.int .i64 gen) (off := 1)
      simp only [List.setIfInBounds_toArray, List.set_cons_succ, List.set_cons_zero] at g2
      have g3 := heap_setCell_same g2 (.int .i64 seq) (off := 2)
      simp only [List.setIfInBounds_toArray, List.set_cons_succ, List.set_cons_zero] at g3
      have g4 := heap_setCell_same g3 (.slice pq lq cq) (off := 3)
      simp only [List.setIfInBounds_toArray, List.set_cons_succ, List.set_cons_zero] at g4
      have hmf := HMS.out (.int .i64 kind) (.int .i64 gen) (.int .i64 seq) (.slice pq lq cq)

      refine ⟨wr.heap.size, kind, gen, seq, pq, lq, cq, n, er, rfl, rfl, rfl, Nat.le_refl _, g4, ?_, HT1.out.mod hmf (show ¬ tb = wr.heap.size by omega), HMW.out.trans hmf (fun k hk h => by omega)⟩
      exact HGOT.out.mod hmf (fun k hk h e => by simp at h; omega) (by simp)
    case rest => as_aux_lemma =>
      obtain ⟨F, kind, gen, seq, pq, lq, cq, n, er, rfl, rfl, rfl, hF, hb, hgot, ht, hm⟩ := hcut
      clear hsl hmul c0 c8 HGET HT HJ
      have hjb := (hm.block jb hjl hjt).trans HB.out
      have hjc := heap_lt hjb
      have hFj : ¬ jb = F := by omega
      have r0 := cell_of hb 0
      have r1 := cell_of hb 1
      have r2 := cell_of hb 2
      have r3 := cell_of hb 3
      have g4 := cell_of hjb 4
      have g5 := cell_of hjb 5
      have g7 := cell_of hjb 7
      simp only [List.getElem?_toArray, List.getElem?_cons_zero, List.getElem?_cons_succ] at r0 r1 r2 r3 g4 g5 g7
      have HJC : Hid (IsJ (fun k => S k ∨ w.heap.size ≤ k) wc jb tb db { s with at_ := at_, recs := rs }) := Lib.hid (HJR.out.mod hm (fun k _ h e => by subst e; rcases h with h | h; exact hS h; omega))
      have HMC : Hid (Mod (fun k => k = tb ∨ S k) w wc) := Lib.hid (HMR.out.trans hm (fun k _ h => .inl h))
      have HTC := Lib.hid ht
      have HM := Lib.hid hm
      have HBJ := Lib.hid hjb
      have HBF := Lib.hid hb
      have HSTOP : Hid (followsN b s.gen (gf + 1) at_ rs = (at_, rs) → ∀ n, Post (.returned (.tuple #[])) (wc.drewN n)) := Lib.hid (fun e n => HPOST.out _ _ ⟨rfl, by
        have hR2 : R = (at_, rs) := HRR.out.symm.trans e
        rw [HFIN.out, hR2]
        exact HJC.out.modNil ((Mod.refl nil wc).drewN n), HTC.out.mod ((Mod.refl nil wc).drewN n) (not_nil _), HMC.out.drewN n⟩)
      have HGOT := Lib.hid hgot
      obtain ⟨GG, hGG⟩ : ∃ GG, s.gen = GG := ⟨_, rfl⟩
      rw [hGG] at g4
      have HGG := Lib.hid hGG
      clear hb ht hm hjb hgot hGG
      by_cases her : er = 0
      · subst her
        obtain ⟨body, hsome, hn, rfl, hv⟩ : ∃ body, getF (b.drop X) = some (kind, gen, seq, body) ∧ n = sectorsF body.length ∧ lq = body.length ∧ IsVec (fun k => wr.heap.size ≤ k) wc 5 1 (.slice pq lq cq) lq (bys body) := by
          rcases HGOT.out with ⟨_, h⟩ | ⟨body, h1, _, h2, h3, h4⟩
          · cases h
          · exact ⟨body, h1, h2, h3, h4⟩
        have HSOME : Hid (getF (b.drop (64 * at_)) = some (kind, gen, seq, body)) := Lib.hid (by rw [HX.out]; exact hsome)
        have HV := Lib.hid hv
        have HN := Lib.hid hn
        clear hsome hv HGOT hn
        have HSTOP2 : Hid (¬ (kind = 2 ∧ gen = s.gen ∧ seq = rs.length + 1) → ∀ n, Post (.returned (.tuple #[])) (wc.drewN n)) := Lib.hid (fun hne => HSTOP.out (followsN_stop b s.gen gf at_ rs kind gen seq body HSOME.out hne))
        by_cases hk : kind = 2
        · subst hk
          by_cases hg : gen = GG
          · subst hg
            by_cases hq : seq = rs.length + 1
            · have q1 : ((seq : Int) != (rs.length : Int) + 1) = false := by simp; omega
              have q2 : ((gen : Int) != (gen : Int)) = false := by simp
              have q3 : (((2 : Nat) : Int) != 2) = false := rfl
              have hwq : IntKind.i64.wrap ((rs.length : Int) + 1) = (rs.length : Int) + 1 := by rw [IntKind.wrap_i64]; omega
              have HGO : Hid (followsN b s.gen gf (at_ + n) (rs ++ [body]) = R) := Lib.hid (by
                rw [← HRR.out, followsN_go b s.gen gf at_ rs 2 gen seq body HSOME.out ⟨rfl, HGG.out.symm, hq⟩, HN.out])
              have hfit : 64 * (at_ + n) ≤ len ∧ 1 ≤ n ∧ n ≤ 1000 := by
                have h1 := getF_fits _ _ _ _ _ HSOME.out
                rw [List.length_drop, HBL.out, ← HN.out] at h1
                omega
              obtain ⟨hfit1, hn1, hn2⟩ := hfit
              have hfitN := HNB.out.2 _ hfit1
              have HQ := Lib.hid hq
              clear hq hfit1
              go_upto_region 1 with (fail)
              go_quiet (fail)
              generalize hw3 : World.drewN wc _ = w3
              have hm3 : Mod nil wc w3 := by rw [← hw3]; exact (Mod.refl _ _).drewN _
              have hb3 := hm3.keep HBJ.out
              have hf3 := hm3.keep HBF.out
              clear r0 r1 r2 r3 g4 g5 g7 q1 q2 q3 hwq hw3
              have r3 := cell_of hf3 3
              have g7 := cell_of hb3 7
              have g8 := cell_of hb3 8
              simp only [List.getElem?_toArray, List.getElem?_cons_zero, List.getElem?_cons_succ] at r3 g7 g8
              have hjl3 := heap_lt hb3
              have hfl3 := heap_lt hf3
              have ka7 : ∀ ob, (w3.alloc ob).cell? ⟨jb, 7, none⟩ = _ := fun ob => cell_kept g7 ((Mod.refl nil w3).alloc ob) hjl3 (not_nil _)
              have ka3 : ∀ ob, (w3.alloc ob).cell? ⟨F, 3, none⟩ = _ := fun ob => cell_kept r3 ((Mod.refl nil w3).alloc ob) hfl3 (not_nil _)
              obtain ⟨v8, w8, hrun8, hv8, hm8, ho8⟩ := texts_append (R := fun k => wr.heap.size ≤ k) (w := w3.drew) 40 (((HRS.out.mod HM.out (fun k _ h e => by subst e; rcases h.1 with h | h; exact hS h; omega)).modNil hm3).modNil (Mod.refl nil w3).drew) (((HV.out.row).modNil hm3).modNil (Mod.refl nil w3).drew) (fun k hk => ⟨⟨.inr (Nat.le_trans HMR.out.size hk), by have : wr.heap.size ≤ k := hk; omega⟩, fun ho => by have := (HRS.out.own ho).2; have : wr.heap.size ≤ k := hk; omega⟩) rfl (by omega)
              rw [show w3.drew.alloc (.cells #[.slice pq body.length cq] 22) = (w3.alloc (.cells #[.slice pq body.length cq] 22)).drew from rfl, show w3.drew.heap.size = w3.heap.size from rfl] at hrun8
              have hm8' : Mod (fun k => Value.ownBlock (.slice pr rs.length cr) = some k) w3 w8 := (Mod.refl nil w3).drew.ofNil.trans hm8 (fun _ _ h => h)
              obtain ⟨p8, c8, rfl⟩ := hv8.form
              have k7 := cell_kept g7 hm8' hjl3 (fun ho => (HRS.out.own ho).1.2 rfl)
              have k3 := cell_kept r3 hm8' hfl3 (fun ho => by have := (HRS.out.own ho).2; omega)
              have hb8 := (hm8'.block jb hjl3 (fun ho => (HRS.out.own ho).1.2 rfl)).trans hb3
              have z7 := free_of hb8 7
              have HV8 := Lib.hid hv8
              have HO8 := Lib.hid ho8
              have HM8 := Lib.hid hm8'
              have HB8 := Lib.hid hb8
              have HM3 := Lib.hid hm3
              clear hv8 hm8 hm8' hb8 ho8 hm3 hb3 hf3 g8
              go_upto_region 2 with (fail)
              refine region_till (fun w' => w'.cell? ⟨jb, 7, none⟩ = some (.slice pr rs.length cr) ∧ w'.cell? ⟨F, 3, none⟩ = some (.slice pq body.length cq)) 11 (by kernel_rfl) ?_
              refine tF 0 (fun _ => ⟨g7, r3⟩) ?_
              (try simp only [Act.put, pT])
              refine tF 1 (fun _ => ⟨g7, r3⟩) ?_
              (try simp only [Act.put, pT])
              refine tF 2 (fun _ => ⟨g7, r3⟩) ?_
              (try simp only [Act.put, pT])
              refine tF 3 (fun _ => ⟨g7, r3⟩) ?_
              (try simp only [Act.put, pT])
              refine tT 4 (⟨g7, r3⟩) ?_
              (try simp only [Act.put, pT])
              refine tF 5 (fun _ => ⟨g7, r3⟩) ?_
              (try simp only [Act.put, pT])
              refine tT 6 (⟨g7, r3⟩) ?_
              (try simp only [Act.put, pT])
              refine till_ready (rs := [7]) (by kernel_rfl) (by simp) ?_
              refine till_cons (i := 7) rfl (fun K hK => ?_) till_nil
              (try dsimp (config := { proj := false }) only [g0, g1, g2])
              go_simp
              refine hK.out _ _ (fun _ => ⟨ka7 _, ka3 _⟩) ?_
              clear hK K
              (try simp only [Act.put, pT])
              refine till_ready (rs := [8]) (by kernel_rfl) (by simp) ?_
              refine till_cons (i := 8) rfl (fun K hK => ?_) till_nil
              (try dsimp (config := { proj := false }) only [g0, g1, g2])
              refine step_append_run rfl _ _ _ _ rfl rfl rfl hrun8 ?_
              refine hK.out _ _ (fun _ => ⟨k7, k3⟩) ?_
              clear hK K
              (try simp only [Act.put, pT])
              refine till_ready (rs := [9]) (by kernel_rfl) (by simp) ?_
              refine till_cons (i := 9) rfl (fun K hK => ?_) till_nil
              (try dsimp (config := { proj := false }) only [g0, g1, g2])
              go_simp
              refine hK.out _ _ (fun _ => ⟨k7, k3⟩) ?_
              clear hK K
              (try simp only [Act.put, pT])
              refine till_ready (rs := [10]) (by kernel_rfl) (by simp) ?_
              refine till_cons (i := 10) rfl (fun K hK => ?_) till_nil
              (try dsimp (config := { proj := false }) only [g0, g1, g2])
              go_simp
              refine hK.out _ _ (fun _ => ⟨k7, k3⟩) ?_
              clear hK K
              (try simp only [Act.put, pT])
              refine till_ready (rs := [11]) (by kernel_rfl) (by simp) ?_
              refine till_cons (i := 11) rfl (fun K hK => ?_) till_nil
              (try dsimp (config := { proj := false }) only [g0, g1, g2])
              go_simp
              refine hK.out _ _ (fun h => (by simp at h)) ?_
              clear hK K
              (try simp only [Act.put, pT])
              refine till_done (by kernel_rfl) ?_ _
              have g1 := heap_setCell_same HB8.out (.slice p8 (rs.length + 1) c8) (off := 7)
              simp only [List.setIfInBounds_toArray, List.set_cons_succ, List.set_cons_zero] at g1
              have hm9 : Mod (· = jb) w8 (w8.setCell ⟨jb, 7, none⟩ (.slice p8 (rs.length + 1) c8)) := (Mod.refl _ _).setCell _ _ (fun _ => rfl)
              generalize World.setCell w8 _ _ = w9 at g1 hm9 ⊢
              have g8 := cell_of g1 8
              have x8 := free_of g1 8
              simp only [List.getElem?_toArray, List.getElem?_cons_zero, List.getElem?_cons_succ] at g8
              obtain ⟨A, hA⟩ : ∃ A, at_ + n = A := ⟨_, rfl⟩
              have hadd : IntKind.i64.wrap ((at_ : Int) + (n : Int)) = (A : Int) := by rw [IntKind.wrap_i64]; omega
              have HG1 := Lib.hid g1
              have HM9 := Lib.hid hm9
              have HA := Lib.hid hA
              clear g1 hm9 hA k7 k3 ka7 ka3 r3 g7 hrun8 z7
              go_wp2_with fail
              go_roundg gf
              case measure => have := HGF.out; omega
              case rel =>
                have g2 := heap_setCell_same HG1.out (.int .i64 A) (off := 8)
                simp only [List.setIfInBounds_toArray, List.set_cons_succ, List.set_cons_zero] at g2
                have hmw8 : Mod (fun k => (k = tb ∨ S k) ∨ k = jb) w w8 := ((HMC.out.thenNil HM3.out).mono (fun _ _ h => .inl h)).trans HM8.out (fun k hk ho => by have := (HRS.out.own ho).1; rcases this.1 with h | h; exact .inl (.inr h); omega)
                have hmj : Mod (· = jb) w8 (w9.setCell ⟨jb, 8, none⟩ (.int .i64 A)) := HM9.out.trans ((Mod.refl (· = jb) w9).setCell _ _ (fun _ => rfl)) (fun _ _ h => h)
                have hmw : Mod (fun k => k = tb ∨ S k) w (w9.setCell ⟨jb, 8, none⟩ (.int .i64 A)) := (hmw8.trans hmj (fun _ _ h => .inr h)).mono (fun k hk h => by rcases h with h | h; exact h; subst h; rcases HJR.out.own with h | h; exact .inr h; omega)
                have hmr : Mod (fun k => (k = tb ∨ (Value.slice pr rs.length cr).ownBlock = some k) ∨ k = jb) wr (w9.setCell ⟨jb, 8, none⟩ (.int .i64 A)) := (((HM.out.thenNil HM3.out).mono (fun _ _ h => .inl (.inl h))).trans HM8.out (fun _ _ h => .inl (.inr h))).trans hmj (fun _ _ h => .inr h)
                refine ⟨A, rs ++ [body], by have := HA.out; omega, ?_, Lib.hid ?_, Lib.hid ?_, Lib.hid ⟨HJR.out.own, pp, cp, p8, c8, ?_, ?_, ?_⟩, Lib.hid ?_, Lib.hid hmw⟩
                · rw [List.length_append]; have := HA.out; simp only [List.length_cons, List.length_nil]; omega
                · have := HGF.out; have := HF.out; have := HA.out; omega
                · rw [← HA.out]; exact HGO.out
                · simp only [List.length_append, List.length_cons, List.length_nil]; exact g2
                · refine (HP.out.here.mod hmr (fun k hk h e => ?_)).mono (fun k hk h => ⟨h.1.1, h.1.2.1, fun ho => ?_⟩)
                  · rcases e with (e | e) | e
                    · subst e
                      rcases h.1.1 with h | h
                      · exact hS h
                      · omega
                    · exact h.1.2.2 e
                    · exact h.1.2.1 e
                  · simp only [List.length_append, List.length_cons, List.length_nil, Nat.zero_add] at ho
                    rcases HO8.out k ho with h' | h'
                    · exact h.1.2.2 h'
                    · have h2 := h.2; have := HM.out.size; have := HM3.out.size; have h3 : w3.heap.size ≤ k := h'; omega
                · simp only [List.length_append, List.length_cons, List.length_nil, Nat.zero_add]
                  refine (HV8.out.mod hmj (fun k hk h e => ?_)).mono (fun k hk h => ?_)
                  · subst e
                    rcases h with h | h
                    · exact h.2 rfl
                    · have h3 : w3.heap.size ≤ k := h; omega
                  · rcases h with h | h
                    · exact h
                    · have h3 : w3.heap.size ≤ k := h
                      exact ⟨.inr (by have := HMC.out.size; have := HM3.out.size; omega), by omega⟩
                · exact ((HTC.out.mod HM3.out (not_nil _)).mod HM8.out (fun ho => by rcases (HRS.out.own ho).1.1 with h | h; exact hS h; omega)).mod hmj (fun e => hjt e.symm)
            · have q1 : ((seq : Int) != (rs.length : Int) + 1) = true := by simp; omega
              have q2 : ((gen : Int) != (gen : Int)) = false := by simp
              have q3 : (((2 : Nat) : Int) != 2) = false := rfl
              have hwq : IntKind.i64.wrap ((rs.length : Int) + 1) = (rs.length : Int) + 1 := by rw [IntKind.wrap_i64]; omega
              have HE := Lib.hid (HSTOP2.out (fun h => hq h.2.2))
              clear hq
              go_upto_region 1 with (fail)
              go_quiet (fail)
              go_wp2_with fail
              go_end0
              exact HE.out _
          · have q2 : ((gen : Int) != (GG : Int)) = true := by simp; omega
            have q3 : (((2 : Nat) : Int) != 2) = false := rfl
            have HE := Lib.hid (HSTOP2.out (fun h => hg (h.2.1.trans HGG.out)))
            clear hg
            go_upto_region 1 with (fail)
            go_quiet (fail)
            go_wp2_with fail
            go_end0
            exact HE.out _
        · have q3 : ((kind : Int) != 2) = true := by simp; omega
          have HE := Lib.hid (HSTOP2.out (fun h => hk h.1))
          clear hk
          go_upto_region 1 with (fail)
          go_quiet (fail)
          go_wp2_with fail
          go_end0
          exact HE.out _
      · have hnone : getF (b.drop (64 * at_)) = none := by
          rw [HX.out]
          rcases HGOT.out with ⟨h, _⟩ | ⟨body, _, h, _⟩
          · exact h
          · exact absurd h her
        have HE := Lib.hid (HSTOP.out (followsN_none b s.gen gf at_ rs hnone))
        have her2 : er = 2 := by
          rcases HGOT.out with ⟨_, h⟩ | ⟨body, _, h, _⟩
          · exact h
          · exact absurd h her
        subst her2
        clear hnone her HGOT
        go_upto_region 1 with (fail)
        go_quiet (fail)
        go_wp2_with fail
        go_end0
        exact HE.out _
end Go.Proofs.YtjilbnpehgigjaaGreat
