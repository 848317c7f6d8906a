/- The walks over package trade: May, New, and the searches by a closure. -/
import Derived.Test.YtdpaklpaanojpaaChecked
import Derived.Test.YtdpaklpaanojpaaSort
import Derived.Test.YtdpaklpaanojpaaStep
import Derived.Test.YtdpaklpaanojpaaTail
namespace Go.Proofs.Ytdpaklpaanojpaa
open Go.RowKit

/-- a trade, said plainly -/
structure T7 where
  id : Int
  buyer : Int
  seller : Int
  cash : Int
  price : Int
  asset : Int
  qty : Int
  deriving DecidableEq
def T7.vals (t : T7) : List Value := [.int .i64 t.id, .int .i64 t.buyer, .int .i64 t.seller, .int .i64 t.cash, .int .i64 t.price, .int .i64 t.asset, .int .i64 t.qty]
def T7.val (t : T7) : Value := .agg #[.int .i64 t.id, .int .i64 t.buyer, .int .i64 t.seller, .int .i64 t.cash, .int .i64 t.price, .int .i64 t.asset, .int .i64 t.qty]
def amount (n : Int) : Bool := decide (0 ≤ n ∧ n ≤ 4611686018427387904)
def amongB (i n : Int) : Bool := decide (0 ≤ i ∧ i < n)
def mayT (t : T7) (p c a : Int) : Int :=
  if amongB t.id 65536 ∧ amongB t.buyer p ∧ amongB t.seller p ∧ amongB t.cash c ∧ amongB t.asset a ∧ amount t.price ∧ t.price ≠ 0 ∧ amount t.qty ∧ t.qty ≠ 0 then (if t.buyer = t.seller then 14 else 0) else 1
theorem lawAmong (i n : Int) (w : World) : Calls Try.prog 26 #[.int .i64 i, .int .i64 n] w fun e w' => e = .returned (.bool (amongB i n)) ∧ w = w' := by
  rcases (show i < 0 ∨ (0 ≤ i ∧ i < n) ∨ (0 ≤ i ∧ ¬ i < n) by omega) with h | ⟨h, h'⟩ | ⟨h, h'⟩
  all_goals
    go_enter Try.func26, Try.ntmps26
    go_wp2
    go_ret
    exact ⟨by simp [amongB]; try omega, rfl⟩
theorem lawAmount (n : Int) (w : World) : Calls Try.prog 27 #[.int .i64 n] w fun e w' => e = .returned (.bool (amount n)) ∧ w = w' := by
  rcases (show n < 0 ∨ (0 ≤ n ∧ n ≤ 4611686018427387904) ∨ (0 ≤ n ∧ ¬ n ≤ 4611686018427387904) by omega) with h | ⟨h, h'⟩ | ⟨h, h'⟩
  all_goals
    go_enter Try.func27, Try.ntmps27
    go_wp2
    go_ret
    exact ⟨by simp [amount]; try omega, rfl⟩
set_option maxHeartbeats 2000000 in
theorem lawMay (t : T7) (p c a : Int) (w : World) : Calls Try.prog 14 #[t.val, .int .i64 p, .int .i64 c, .int .i64 a] w fun e w' => e = .returned (.int .i64 (mayT t p c a)) ∧ Mod nil w w' := by
  obtain ⟨r, hr⟩ : ∃ r, mayT t p c a = r := ⟨_, rfl⟩
  rw [hr]
  have HR := Lib.hid hr
  clear hr
  obtain ⟨id, buyer, seller, cash, price, asset, qty⟩ := t
  simp only [T7.val]
  obtain ⟨x1, h1⟩ : ∃ x, amongB id 65536 = x := ⟨_, rfl⟩
  obtain ⟨x2, h2⟩ : ∃ x, amongB buyer p = x := ⟨_, rfl⟩
  obtain ⟨x3, h3⟩ : ∃ x, amongB seller p = x := ⟨_, rfl⟩
  obtain ⟨x4, h4⟩ : ∃ x, amongB cash c = x := ⟨_, rfl⟩
  obtain ⟨x5, h5⟩ : ∃ x, amongB asset a = x := ⟨_, rfl⟩
  obtain ⟨x6, h6⟩ : ∃ x, amount price = x := ⟨_, rfl⟩
  obtain ⟨x7, h7⟩ : ∃ x, amount qty = x := ⟨_, rfl⟩
  have H1 := Lib.hid h1
  have H2 := Lib.hid h2
  have H3 := Lib.hid h3
  have H4 := Lib.hid h4
  have H5 := Lib.hid h5
  have H6 := Lib.hid h6
  have H7 := Lib.hid h7
  clear h1 h2 h3 h4 h5 h6 h7
  have HM := Lib.hid (show Mod nil w (w.alloc (.cells #[.int .i64 id, .int .i64 buyer, .int .i64 seller, .int .i64 cash, .int .i64 price, .int .i64 asset, .int .i64 qty] 31)) from (Mod.refl nil w).alloc _)
  cases x1
  · go_enter Try.func14, Try.ntmps14
    go_wp2_with fail
    refine (lawAmong _ _ _).mono ?_
    rw [H1.out]
    rintro e w' ⟨rfl, rfl⟩
    go_wp2_with fail
    go_ret
    exact ⟨by rw [← HR.out]; simp [mayT, H1.out, H2.out, H3.out, H4.out, H5.out, H6.out, H7.out], HM.out⟩
  · cases x2
    · go_enter Try.func14, Try.ntmps14
      go_wp2_with fail
      refine (lawAmong _ _ _).mono ?_
      rw [H1.out]
      rintro e w' ⟨rfl, rfl⟩
      go_wp2_with fail
      refine (lawAmong _ _ _).mono ?_
      rw [H2.out]
      rintro e w' ⟨rfl, rfl⟩
      go_wp2_with fail
      go_ret
      exact ⟨by rw [← HR.out]; simp [mayT, H1.out, H2.out, H3.out, H4.out, H5.out, H6.out, H7.out], HM.out⟩
    · cases x3
      · go_enter Try.func14, Try.ntmps14
        go_wp2_with fail
        refine (lawAmong _ _ _).mono ?_
        rw [H1.out]
        rintro e w' ⟨rfl, rfl⟩
        go_wp2_with fail
        refine (lawAmong _ _ _).mono ?_
        rw [H2.out]
        rintro e w' ⟨rfl, rfl⟩
        go_wp2_with fail
        refine (lawAmong _ _ _).mono ?_
        rw [H3.out]
        rintro e w' ⟨rfl, rfl⟩
        go_wp2_with fail
        go_ret
        exact ⟨by rw [← HR.out]; simp [mayT, H1.out, H2.out, H3.out, H4.out, H5.out, H6.out, H7.out], HM.out⟩
      · cases x4
        · go_enter Try.func14, Try.ntmps14
          go_wp2_with fail
          refine (lawAmong _ _ _).mono ?_
          rw [H1.out]
          rintro e w' ⟨rfl, rfl⟩
          go_wp2_with fail
          refine (lawAmong _ _ _).mono ?_
          rw [H2.out]
          rintro e w' ⟨rfl, rfl⟩
          go_wp2_with fail
          refine (lawAmong _ _ _).mono ?_
          rw [H3.out]
          rintro e w' ⟨rfl, rfl⟩
          go_wp2_with fail
          refine (lawAmong _ _ _).mono ?_
          rw [H4.out]
          rintro e w' ⟨rfl, rfl⟩
          go_wp2_with fail
          go_ret
          exact ⟨by rw [← HR.out]; simp [mayT, H1.out, H2.out, H3.out, H4.out, H5.out, H6.out, H7.out], HM.out⟩
        · cases x5
          · go_enter Try.func14, Try.ntmps14
            go_wp2_with fail
            refine (lawAmong _ _ _).mono ?_
            rw [H1.out]
            rintro e w' ⟨rfl, rfl⟩
            go_wp2_with fail
            refine (lawAmong _ _ _).mono ?_
            rw [H2.out]
            rintro e w' ⟨rfl, rfl⟩
            go_wp2_with fail
            refine (lawAmong _ _ _).mono ?_
            rw [H3.out]
            rintro e w' ⟨rfl, rfl⟩
            go_wp2_with fail
            refine (lawAmong _ _ _).mono ?_
            rw [H4.out]
            rintro e w' ⟨rfl, rfl⟩
            go_wp2_with fail
            refine (lawAmong _ _ _).mono ?_
            rw [H5.out]
            rintro e w' ⟨rfl, rfl⟩
            go_wp2_with fail
            go_ret
            exact ⟨by rw [← HR.out]; simp [mayT, H1.out, H2.out, H3.out, H4.out, H5.out, H6.out, H7.out], HM.out⟩
          · cases x6
            · go_enter Try.func14, Try.ntmps14
              go_wp2_with fail
              refine (lawAmong _ _ _).mono ?_
              rw [H1.out]
              rintro e w' ⟨rfl, rfl⟩
              go_wp2_with fail
              refine (lawAmong _ _ _).mono ?_
              rw [H2.out]
              rintro e w' ⟨rfl, rfl⟩
              go_wp2_with fail
              refine (lawAmong _ _ _).mono ?_
              rw [H3.out]
              rintro e w' ⟨rfl, rfl⟩
              go_wp2_with fail
              refine (lawAmong _ _ _).mono ?_
              rw [H4.out]
              rintro e w' ⟨rfl, rfl⟩
              go_wp2_with fail
              refine (lawAmong _ _ _).mono ?_
              rw [H5.out]
              rintro e w' ⟨rfl, rfl⟩
              go_wp2_with fail
              refine (lawAmount _ _).mono ?_
              rw [H6.out]
              rintro e w' ⟨rfl, rfl⟩
              go_wp2_with fail
              go_ret
              exact ⟨by rw [← HR.out]; simp [mayT, H1.out, H2.out, H3.out, H4.out, H5.out, H6.out, H7.out], HM.out⟩
            · by_cases hz6 : price = 0
              · subst hz6
                go_enter Try.func14, Try.ntmps14
                go_wp2_with fail
                refine (lawAmong _ _ _).mono ?_
                rw [H1.out]
                rintro e w' ⟨rfl, rfl⟩
                go_wp2_with fail
                refine (lawAmong _ _ _).mono ?_
                rw [H2.out]
                rintro e w' ⟨rfl, rfl⟩
                go_wp2_with fail
                refine (lawAmong _ _ _).mono ?_
                rw [H3.out]
                rintro e w' ⟨rfl, rfl⟩
                go_wp2_with fail
                refine (lawAmong _ _ _).mono ?_
                rw [H4.out]
                rintro e w' ⟨rfl, rfl⟩
                go_wp2_with fail
                refine (lawAmong _ _ _).mono ?_
                rw [H5.out]
                rintro e w' ⟨rfl, rfl⟩
                go_wp2_with fail
                refine (lawAmount _ _).mono ?_
                rw [H6.out]
                rintro e w' ⟨rfl, rfl⟩
                go_wp2_with fail
                go_ret
                exact ⟨by rw [← HR.out]; simp [mayT, H1.out, H2.out, H3.out, H4.out, H5.out, H6.out, H7.out], HM.out⟩
              · have hb6 : (price == 0) = false := by simpa using hz6
                cases x7
                · go_enter Try.func14, Try.ntmps14
                  go_wp2_with fail
                  refine (lawAmong _ _ _).mono ?_
                  rw [H1.out]
                  rintro e w' ⟨rfl, rfl⟩
                  go_wp2_with fail
                  refine (lawAmong _ _ _).mono ?_
                  rw [H2.out]
                  rintro e w' ⟨rfl, rfl⟩
                  go_wp2_with fail
                  refine (lawAmong _ _ _).mono ?_
                  rw [H3.out]
                  rintro e w' ⟨rfl, rfl⟩
                  go_wp2_with fail
                  refine (lawAmong _ _ _).mono ?_
                  rw [H4.out]
                  rintro e w' ⟨rfl, rfl⟩
                  go_wp2_with fail
                  refine (lawAmong _ _ _).mono ?_
                  rw [H5.out]
                  rintro e w' ⟨rfl, rfl⟩
                  go_wp2_with fail
                  refine (lawAmount _ _).mono ?_
                  rw [H6.out]
                  rintro e w' ⟨rfl, rfl⟩
                  go_wp2_with fail
                  refine (lawAmount _ _).mono ?_
                  rw [H7.out]
                  rintro e w' ⟨rfl, rfl⟩
                  go_wp2_with fail
                  go_ret
                  exact ⟨by rw [← HR.out]; simp [mayT, H1.out, H2.out, H3.out, H4.out, H5.out, H6.out, H7.out, hz6], HM.out⟩
                · by_cases hz8 : qty = 0
                  · subst hz8
                    go_enter Try.func14, Try.ntmps14
                    go_wp2_with fail
                    refine (lawAmong _ _ _).mono ?_
                    rw [H1.out]
                    rintro e w' ⟨rfl, rfl⟩
                    go_wp2_with fail
                    refine (lawAmong _ _ _).mono ?_
                    rw [H2.out]
                    rintro e w' ⟨rfl, rfl⟩
                    go_wp2_with fail
                    refine (lawAmong _ _ _).mono ?_
                    rw [H3.out]
                    rintro e w' ⟨rfl, rfl⟩
                    go_wp2_with fail
                    refine (lawAmong _ _ _).mono ?_
                    rw [H4.out]
                    rintro e w' ⟨rfl, rfl⟩
                    go_wp2_with fail
                    refine (lawAmong _ _ _).mono ?_
                    rw [H5.out]
                    rintro e w' ⟨rfl, rfl⟩
                    go_wp2_with fail
                    refine (lawAmount _ _).mono ?_
                    rw [H6.out]
                    rintro e w' ⟨rfl, rfl⟩
                    go_wp2_with fail
                    refine (lawAmount _ _).mono ?_
                    rw [H7.out]
                    rintro e w' ⟨rfl, rfl⟩
                    go_wp2_with fail
                    go_ret
                    exact ⟨by rw [← HR.out]; simp [mayT, H1.out, H2.out, H3.out, H4.out, H5.out, H6.out, H7.out, hz6], HM.out⟩
                  · have hb8 : (qty == 0) = false := by simpa using hz8
                    by_cases hbs : buyer = seller
                    · subst hbs
                      go_enter Try.func14, Try.ntmps14
                      go_wp2_with fail
                      refine (lawAmong _ _ _).mono ?_
                      rw [H1.out]
                      rintro e w' ⟨rfl, rfl⟩
                      go_wp2_with fail
                      refine (lawAmong _ _ _).mono ?_
                      rw [H2.out]
                      rintro e w' ⟨rfl, rfl⟩
                      go_wp2_with fail
                      refine (lawAmong _ _ _).mono ?_
                      rw [H3.out]
                      rintro e w' ⟨rfl, rfl⟩
                      go_wp2_with fail
                      refine (lawAmong _ _ _).mono ?_
                      rw [H4.out]
                      rintro e w' ⟨rfl, rfl⟩
                      go_wp2_with fail
                      refine (lawAmong _ _ _).mono ?_
                      rw [H5.out]
                      rintro e w' ⟨rfl, rfl⟩
                      go_wp2_with fail
                      refine (lawAmount _ _).mono ?_
                      rw [H6.out]
                      rintro e w' ⟨rfl, rfl⟩
                      go_wp2_with fail
                      refine (lawAmount _ _).mono ?_
                      rw [H7.out]
                      rintro e w' ⟨rfl, rfl⟩
                      go_wp2_with fail
                      go_ret
                      exact ⟨by rw [← HR.out]; simp [mayT, H1.out, H2.out, H3.out, H4.out, H5.out, H6.out, H7.out, hz6, hz8], HM.out⟩
                    · go_enter Try.func14, Try.ntmps14
                      go_wp2_with fail
                      refine (lawAmong _ _ _).mono ?_
                      rw [H1.out]
                      rintro e w' ⟨rfl, rfl⟩
                      go_wp2_with fail
                      refine (lawAmong _ _ _).mono ?_
                      rw [H2.out]
                      rintro e w' ⟨rfl, rfl⟩
                      go_wp2_with fail
                      refine (lawAmong _ _ _).mono ?_
                      rw [H3.out]
                      rintro e w' ⟨rfl, rfl⟩
                      go_wp2_with fail
                      refine (lawAmong _ _ _).mono ?_
                      rw [H4.out]
                      rintro e w' ⟨rfl, rfl⟩
                      go_wp2_with fail
                      refine (lawAmong _ _ _).mono ?_
                      rw [H5.out]
                      rintro e w' ⟨rfl, rfl⟩
                      go_wp2_with fail
                      refine (lawAmount _ _).mono ?_
                      rw [H6.out]
                      rintro e w' ⟨rfl, rfl⟩
                      go_wp2_with fail
                      refine (lawAmount _ _).mono ?_
                      rw [H7.out]
                      rintro e w' ⟨rfl, rfl⟩
                      go_wp2_with fail
                      go_ret
                      exact ⟨by rw [← HR.out]; simp [mayT, H1.out, H2.out, H3.out, H4.out, H5.out, H6.out, H7.out, hz6, hz8, hbs], HM.out⟩
--@@endmay
/-- a confirmation -/
structure Said where
  who : Int
  t : T7
  deriving DecidableEq
def Said.vals (x : Said) : List Value := .int .i64 x.who :: x.t.vals
def Said.val (x : Said) : Value := .agg #[.int .i64 x.who, .int .i64 x.t.id, .int .i64 x.t.buyer, .int .i64 x.t.seller, .int .i64 x.t.cash, .int .i64 x.t.price, .int .i64 x.t.asset, .int .i64 x.t.qty]
def saids (l : List Said) : List Value := l.flatMap Said.vals
theorem saids_length (l : List Said) : (saids l).length = l.length * 8 := by
  induction l with
  | nil => rfl
  | cons a l ih =>
    have : saids (a :: l) = a.vals ++ saids l := by simp [saids]
    rw [this, List.length_append, ih]
    simp [Said.vals, T7.vals]
    omega
theorem saids_get (l : List Said) : ∀ (k : Nat) (hk : k < l.length) (j : Nat), j < 8 → (saids l)[k * 8 + j]? = (l[k].vals)[j]? := by
  induction l with
  | nil => intro k hk; simp at hk
  | cons a l ih =>
    intro k hk j hj
    have : saids (a :: l) = a.vals ++ saids l := by simp [saids]
    have hlen : a.vals.length = 8 := by simp [Said.vals, T7.vals]
    rw [this]
    cases k with
    | zero =>
      rw [Nat.zero_mul, Nat.zero_add, List.getElem?_append_left (by omega)]
      rfl
    | succ k =>
      rw [List.getElem?_append_right (by omega), hlen, show (k + 1) * 8 + j - 8 = k * 8 + j by omega]
      exact ih k (by simpa using hk) j hj
theorem saids_append (l : List Said) (x : Said) : saids (l ++ [x]) = saids l ++ x.vals := by simp [saids]
theorem said_one (x : Said) : ∀ u ∈ x.vals, u.oneCell' = true := by
  intro u hu
  simp only [Said.vals, T7.vals, List.mem_cons, List.not_mem_nil, or_false] at hu
  rcases hu with rfl | rfl | rfl | rfl | rfl | rfl | rfl | rfl <;> rfl
/-- the cells of confirmation k in a row of them -/
theorem said_cells {S : Nat → Prop} {w : World} {v : Value} {l : List Said} (h : IsCells S w v l.length (saids l)) (k : Nat) (hk : k < l.length) :
    ∃ g off, (∃ c, v = .slice (some ⟨g, off, none⟩) l.length c) ∧ S g ∧ g < w.heap.size ∧ w.cell? ⟨g, off + k * 8, none⟩ = some (.int .i64 l[k].who) ∧ w.cell? ⟨g, off + k * 8 + 1, none⟩ = some (.int .i64 l[k].t.id) ∧ w.cell? ⟨g, off + k * 8 + 2, none⟩ = some (.int .i64 l[k].t.buyer) ∧
      w.cell? ⟨g, off + k * 8 + 3, none⟩ = some (.int .i64 l[k].t.seller) ∧ w.cell? ⟨g, off + k * 8 + 4, none⟩ = some (.int .i64 l[k].t.cash) ∧ w.cell? ⟨g, off + k * 8 + 5, none⟩ = some (.int .i64 l[k].t.price) ∧ w.cell? ⟨g, off + k * 8 + 6, none⟩ = some (.int .i64 l[k].t.asset) ∧ w.cell? ⟨g, off + k * 8 + 7, none⟩ = some (.int .i64 l[k].t.qty) := by
  obtain ⟨p, c, rfl, hc⟩ := h
  have hl := saids_length l
  obtain ⟨g, off, rfl, hS, hg, _⟩ := hc 0 (by omega)
  have hcell : ∀ j, j < 8 → w.cell? ⟨g, off + k * 8 + j, none⟩ = (l[k].vals)[j]? := by
    intro j hj
    obtain ⟨b, o, hp, _, _, hx⟩ := hc (k * 8 + j) (by omega)
    simp only [Option.some.injEq, Addr.mk.injEq, and_true] at hp
    obtain ⟨rfl, rfl⟩ := hp
    rw [Nat.add_assoc, hx]
    have h2 := saids_get l k hk j hj
    have hj2 : j < (l[k].vals).length := by simpa [Said.vals, T7.vals] using hj
    rw [List.getElem?_eq_getElem hj2] at h2 ⊢
    rw [List.getD_eq_getElem?_getD, h2]; rfl
  exact ⟨g, off, ⟨c, rfl⟩, hS, hg, hcell 0 (by omega), hcell 1 (by omega), hcell 2 (by omega), hcell 3 (by omega), hcell 4 (by omega), hcell 5 (by omega), hcell 6 (by omega), hcell 7 (by omega)⟩
--@@closures
theorem closePut (x : Said) (who id : Int) (b1 b2 : Nat) (w : World) (h1 : w.cell? ⟨b1, 0, none⟩ = some (.int .i64 who)) (h2 : w.cell? ⟨b2, 0, none⟩ = some (.int .i64 id)) :
    Calls Try.prog 23 #[x.val, .pointer (some ⟨b1, 0, none⟩), .pointer (some ⟨b2, 0, none⟩)] w fun e w' => e = .returned (.bool (decide (x.who = who) && decide (x.t.id = id))) ∧ Mod nil w w' := by
  obtain ⟨xw, ⟨id', buyer, seller, cash, price, asset, qty⟩⟩ := x
  simp only [Said.val]
  have ha : Mod nil w (w.alloc (.cells #[.int .i64 xw, .int .i64 id', .int .i64 buyer, .int .i64 seller, .int .i64 cash, .int .i64 price, .int .i64 asset, .int .i64 qty] 56)) := (Mod.refl nil w).alloc _
  have k1 := cell_kept h1 ha (World.block_lt_of_cell? _ _ h1) (not_nil _)
  have k2 := cell_kept h2 ha (World.block_lt_of_cell? _ _ h2) (not_nil _)
  have HA := Lib.hid ha
  clear ha h1 h2
  by_cases hw : xw = who
  · subst hw
    go_enter Try.func23, Try.ntmps23
    go_wp2_with fail
    go_ret
    exact ⟨by simp only [decide_true, Bool.true_and]; congr 1, HA.out⟩
  · have hw' : (xw == who) = false := by simpa using hw
    go_enter Try.func23, Try.ntmps23
    go_wp2_with fail
    go_ret
    exact ⟨by simp [hw], HA.out⟩
theorem closeBoth (y x : Said) (b1 : Nat) (w : World) (h1 : w.heap[b1]? = some (.cells x.vals.toArray 56 (0, 0))) :
    Calls Try.prog 35 #[y.val, .pointer (some ⟨b1, 0, none⟩)] w fun e w' => e = .returned (.bool (decide (y.who ≠ x.who) && decide (y.t = x.t))) ∧ Mod nil w w' := by
  obtain ⟨yw, ⟨a1, a2, a3, a4, a5, a6, a7⟩⟩ := y
  obtain ⟨xw, ⟨c1, c2, c3, c4, c5, c6, c7⟩⟩ := x
  simp only [Said.val]
  have ha : Mod nil w (w.alloc (.cells #[.int .i64 yw, .int .i64 a1, .int .i64 a2, .int .i64 a3, .int .i64 a4, .int .i64 a5, .int .i64 a6, .int .i64 a7] 56)) := (Mod.refl nil w).alloc _
  have hh := ha.keep h1
  have k0 := (cell_of hh 0).trans (show _ = some (Value.int .i64 xw) from rfl)
  have k1 := (cell_of hh 1).trans (show _ = some (Value.int .i64 c1) from rfl)
  have k2 := (cell_of hh 2).trans (show _ = some (Value.int .i64 c2) from rfl)
  have k3 := (cell_of hh 3).trans (show _ = some (Value.int .i64 c3) from rfl)
  have k4 := (cell_of hh 4).trans (show _ = some (Value.int .i64 c4) from rfl)
  have k5 := (cell_of hh 5).trans (show _ = some (Value.int .i64 c5) from rfl)
  have k6 := (cell_of hh 6).trans (show _ = some (Value.int .i64 c6) from rfl)
  have k7 := (cell_of hh 7).trans (show _ = some (Value.int .i64 c7) from rfl)
  have HA := Lib.hid ha
  clear ha h1 hh
  by_cases hw : yw = xw
  · subst hw
    go_enter Try.func35, Try.ntmps35
    go_wp2_with fail
    go_ret
    exact ⟨by simp, HA.out⟩
  · have hw' : (yw == xw) = false := by simpa using hw
    go_enter Try.func35, Try.ntmps35
    go_wp2_with fail
    all_goals
      subst_vars
      go_ret
      exact ⟨by simp_all, HA.out⟩
--@@index
theorem any_take_succ {α : Type} (l : List α) (k : Nat) (hk : k < l.length) (f : α → Bool) : (l.take (k + 1)).any f = ((l.take k).any f || f l[k]) := by
  rw [← List.take_append_getElem hk, List.any_append]
  simp only [List.any_cons, List.any_nil, Bool.or_false]
set_option maxRecDepth 100000 in
theorem indexPut (S : Nat → Prop) (v : Value) (l : List Said) (who id : Int) (b1 b2 : Nat) (w : World) (h : IsCells S w v l.length (saids l)) (hn : l.length ≤ 9223372036854775807) (h1 : w.cell? ⟨b1, 0, none⟩ = some (.int .i64 who)) (h2 : w.cell? ⟨b2, 0, none⟩ = some (.int .i64 id)) :
    Calls Try.prog 31 #[v, .func (.func 23) #[] #[.pointer (some ⟨b1, 0, none⟩), .pointer (some ⟨b2, 0, none⟩)]] w fun e w' => (e = .returned (.int .i64 (-1)) ∧ l.any (fun x : Said => decide (x.who = who) && decide (x.t.id = id)) = false ∧ Mod nil w w') ∨ (∃ k : Nat, k < l.length ∧ e = .returned (.int .i64 k) ∧ l.any (fun x : Said => decide (x.who = who) && decide (x.t.id = id)) = true ∧ Mod nil w w') := by
  have H := Lib.hid h
  obtain ⟨p, c, rfl, _⟩ := h
  obtain ⟨n, hln⟩ : ∃ n, l.length = n := ⟨_, rfl⟩
  rw [hln] at hn ⊢
  have HN := Lib.hid hln
  have hb1 := World.block_lt_of_cell? _ _ h1
  have hb2 := World.block_lt_of_cell? _ _ h2
  have HE1 := Lib.hid h1
  have HE2 := Lib.hid h2
  clear h1 h2
  clear hln
  go_enter Try.func31, Try.ntmps31
  go_wp2_with fail
  go_loopw [8] (fun v wr => ∃ k : Nat, k ≤ n ∧ v = .int .i64 k ∧ Mod nil w wr ∧ Hid ((l.take k).any (fun x : Said => decide (x.who = who) && decide (x.t.id = id)) = false)) (fun v _ => n - (intOf v).toNat)
  case atStart => exact ⟨0, by omega, rfl, Mod.refl _ _, Lib.hid (by simp)⟩
  case round =>
    obtain ⟨k, hk, rfl, hmod, HT⟩ := hrel
    by_cases hlt : k < n
    · have hkl : k < l.length := by have := HN.out; omega
      obtain ⟨g, off, ⟨c', hv⟩, _, hgl, c0, c1, c2, c3, c4, c5, c6, c7⟩ := said_cells (H.out.modNil hmod) k hkl
      simp only [Value.slice.injEq] at hv
      obtain ⟨rfl, -, rfl⟩ := hv
      have htk : (l.take (k + 1)).any (fun x : Said => decide (x.who = who) && decide (x.t.id = id)) = ((l.take k).any (fun x : Said => decide (x.who = who) && decide (x.t.id = id)) || (fun x : Said => decide (x.who = who) && decide (x.t.id = id)) l[k]) := any_take_succ l k hkl _
      have hany : (fun x : Said => decide (x.who = who) && decide (x.t.id = id)) l[k] = true → l.any (fun x : Said => decide (x.who = who) && decide (x.t.id = id)) = true := fun h => List.any_eq_true.2 ⟨_, List.getElem_mem hkl, h⟩
      obtain ⟨x, hx⟩ : ∃ x, l[k] = x := ⟨_, rfl⟩
      rw [hx] at c0 c1 c2 c3 c4 c5 c6 c7 htk hany
      obtain ⟨xw, ⟨t1, t2, t3, t4, t5, t6, t7⟩⟩ := x
      obtain ⟨r, hr⟩ : ∃ r, (fun x : Said => decide (x.who = who) && decide (x.t.id = id)) ⟨xw, ⟨t1, t2, t3, t4, t5, t6, t7⟩⟩ = r := ⟨_, rfl⟩
      rw [hr] at htk hany
      have HTK := Lib.hid htk
      have HANY := Lib.hid hany
      have HR := Lib.hid hr
      clear htk hany hx hr
      go_wp2_with fail
      refine (closePut ⟨xw, ⟨t1, t2, t3, t4, t5, t6, t7⟩⟩ who id b1 b2 _ (cell_kept HE1.out hmod hb1 (not_nil _)) (cell_kept HE2.out hmod hb2 (not_nil _))).mono ?_
      rw [show _ = r from HR.out]
      rintro e w2 ⟨rfl, hm2⟩
      cases r
      · go_wp2_with fail
        exact ⟨⟨k + 1, by omega, by go_num, hmod.thenNil hm2, Lib.hid (by rw [HTK.out, HT.out]; rfl)⟩, by simp [intOf]; omega⟩
      · go_wp2_with fail
        go_ret
        exact .inr ⟨k, hlt, rfl, HANY.out trivial, hmod.thenNil hm2⟩
    · obtain rfl : k = n := by omega
      go_wp2_with fail
      go_ret
      refine .inl ⟨rfl, ?_, hmod⟩
      have := HT.out
      rwa [← HN.out, List.take_length] at this
set_option maxRecDepth 100000 in
theorem indexBoth (S : Nat → Prop) (v : Value) (l : List Said) (x0 : Said) (b1 : Nat) (w : World) (h : IsCells S w v l.length (saids l)) (hn : l.length ≤ 9223372036854775807) (h1 : w.heap[b1]? = some (.cells x0.vals.toArray 56 (0, 0))) :
    Calls Try.prog 31 #[v, .func (.func 35) #[] #[.pointer (some ⟨b1, 0, none⟩)]] w fun e w' => (e = .returned (.int .i64 (-1)) ∧ l.any (fun y : Said => decide (y.who ≠ x0.who) && decide (y.t = x0.t)) = false ∧ Mod nil w w') ∨ (∃ k : Nat, k < l.length ∧ e = .returned (.int .i64 k) ∧ l.any (fun y : Said => decide (y.who ≠ x0.who) && decide (y.t = x0.t)) = true ∧ Mod nil w w') := by
  have H := Lib.hid h
  obtain ⟨p, c, rfl, _⟩ := h
  obtain ⟨n, hln⟩ : ∃ n, l.length = n := ⟨_, rfl⟩
  rw [hln] at hn ⊢
  have HN := Lib.hid hln
  have HE1 := Lib.hid h1
  clear h1
  clear hln
  go_enter Try.func31, Try.ntmps31
  go_wp2_with fail
  go_loopw [8] (fun v wr => ∃ k : Nat, k ≤ n ∧ v = .int .i64 k ∧ Mod nil w wr ∧ Hid ((l.take k).any (fun y : Said => decide (y.who ≠ x0.who) && decide (y.t = x0.t)) = false)) (fun v _ => n - (intOf v).toNat)
  case atStart => exact ⟨0, by omega, rfl, Mod.refl _ _, Lib.hid (by simp)⟩
  case round =>
    obtain ⟨k, hk, rfl, hmod, HT⟩ := hrel
    by_cases hlt : k < n
    · have hkl : k < l.length := by have := HN.out; omega
      obtain ⟨g, off, ⟨c', hv⟩, _, hgl, c0, c1, c2, c3, c4, c5, c6, c7⟩ := said_cells (H.out.modNil hmod) k hkl
      simp only [Value.slice.injEq] at hv
      obtain ⟨rfl, -, rfl⟩ := hv
      have htk : (l.take (k + 1)).any (fun y : Said => decide (y.who ≠ x0.who) && decide (y.t = x0.t)) = ((l.take k).any (fun y : Said => decide (y.who ≠ x0.who) && decide (y.t = x0.t)) || (fun y : Said => decide (y.who ≠ x0.who) && decide (y.t = x0.t)) l[k]) := any_take_succ l k hkl _
      have hany : (fun y : Said => decide (y.who ≠ x0.who) && decide (y.t = x0.t)) l[k] = true → l.any (fun y : Said => decide (y.who ≠ x0.who) && decide (y.t = x0.t)) = true := fun h => List.any_eq_true.2 ⟨_, List.getElem_mem hkl, h⟩
      obtain ⟨x, hx⟩ : ∃ x, l[k] = x := ⟨_, rfl⟩
      rw [hx] at c0 c1 c2 c3 c4 c5 c6 c7 htk hany
      obtain ⟨xw, ⟨t1, t2, t3, t4, t5, t6, t7⟩⟩ := x
      obtain ⟨r, hr⟩ : ∃ r, (fun y : Said => decide (y.who ≠ x0.who) && decide (y.t = x0.t)) ⟨xw, ⟨t1, t2, t3, t4, t5, t6, t7⟩⟩ = r := ⟨_, rfl⟩
      rw [hr] at htk hany
      have HTK := Lib.hid htk
      have HANY := Lib.hid hany
      have HR := Lib.hid hr
      clear htk hany hx hr
      go_wp2_with fail
      refine (closeBoth ⟨xw, ⟨t1, t2, t3, t4, t5, t6, t7⟩⟩ x0 b1 _ (hmod.keep HE1.out)).mono ?_
      rw [show _ = r from HR.out]
      rintro e w2 ⟨rfl, hm2⟩
      cases r
      · go_wp2_with fail
        exact ⟨⟨k + 1, by omega, by go_num, hmod.thenNil hm2, Lib.hid (by rw [HTK.out, HT.out]; rfl)⟩, by simp [intOf]; omega⟩
      · go_wp2_with fail
        go_ret
        exact .inr ⟨k, hlt, rfl, HANY.out trivial, hmod.thenNil hm2⟩
    · obtain rfl : k = n := by omega
      go_wp2_with fail
      go_ret
      refine .inl ⟨rfl, ?_, hmod⟩
      have := HT.out
      rwa [← HN.out, List.take_length] at this
theorem containsPut (S : Nat → Prop) (v : Value) (l : List Said) (who id : Int) (b1 b2 : Nat) (w : World) (h : IsCells S w v l.length (saids l)) (hn : l.length ≤ 9223372036854775807) (h1 : w.cell? ⟨b1, 0, none⟩ = some (.int .i64 who)) (h2 : w.cell? ⟨b2, 0, none⟩ = some (.int .i64 id)) :
    Calls Try.prog 22 #[v, .func (.func 23) #[] #[.pointer (some ⟨b1, 0, none⟩), .pointer (some ⟨b2, 0, none⟩)]] w fun e w' => e = .returned (.bool (l.any (fun x : Said => decide (x.who = who) && decide (x.t.id = id)))) ∧ Mod nil w w' := by
  have H := Lib.hid h
  obtain ⟨p, c, rfl, _⟩ := h
  obtain ⟨r, hr⟩ : ∃ r, l.any (fun x : Said => decide (x.who = who) && decide (x.t.id = id)) = r := ⟨_, rfl⟩
  rw [hr]
  have HR := Lib.hid hr
  clear hr
  go_enter Try.func22, Try.ntmps22
  go_wp2_with fail
  refine (indexPut S _ l who id b1 b2 w H.out hn h1 h2).mono ?_
  rintro e w2 (⟨rfl, ha, hm⟩ | ⟨k, hk, rfl, ha, hm⟩)
  · have hr' : r = false := by rw [← HR.out]; exact ha
    subst hr'
    clear ha
    go_wp2_with fail
    go_ret
    exact ⟨rfl, hm⟩
  · have hr' : r = true := by rw [← HR.out]; exact ha
    subst hr'
    clear ha
    go_wp2_with fail
    go_ret
    exact ⟨rfl, hm⟩
theorem containsBoth (S : Nat → Prop) (v : Value) (l : List Said) (x0 : Said) (b1 : Nat) (w : World) (h : IsCells S w v l.length (saids l)) (hn : l.length ≤ 9223372036854775807) (h1 : w.heap[b1]? = some (.cells x0.vals.toArray 56 (0, 0))) :
    Calls Try.prog 22 #[v, .func (.func 35) #[] #[.pointer (some ⟨b1, 0, none⟩)]] w fun e w' => e = .returned (.bool (l.any (fun y : Said => decide (y.who ≠ x0.who) && decide (y.t = x0.t)))) ∧ Mod nil w w' := by
  have H := Lib.hid h
  obtain ⟨p, c, rfl, _⟩ := h
  obtain ⟨r, hr⟩ : ∃ r, l.any (fun y : Said => decide (y.who ≠ x0.who) && decide (y.t = x0.t)) = r := ⟨_, rfl⟩
  rw [hr]
  have HR := Lib.hid hr
  clear hr
  go_enter Try.func22, Try.ntmps22
  go_wp2_with fail
  refine (indexBoth S _ l x0 b1 w H.out hn h1).mono ?_
  rintro e w2 (⟨rfl, ha, hm⟩ | ⟨k, hk, rfl, ha, hm⟩)
  · have hr' : r = false := by rw [← HR.out]; exact ha
    subst hr'
    clear ha
    go_wp2_with fail
    go_ret
    exact ⟨rfl, hm⟩
  · have hr' : r = true := by rw [← HR.out]; exact ha
    subst hr'
    clear ha
    go_wp2_with fail
    go_ret
    exact ⟨rfl, hm⟩
end Go.Proofs.Ytdpaklpaanojpaa
