/- Two trades compared. -/
import Derived.Test.YtdpaklpaanojpaaTrade
namespace Go.Proofs.Ytdpaklpaanojpaa
open Go.RowKit
theorem trade_eq (x y : T7) (w : World) : (binOp .eql 31 x.val y.val).run Try.prog w = .ok (.bool (decide (x = y))) w := by
  obtain ⟨a1, a2, a3, a4, a5, a6, a7⟩ := x
  obtain ⟨b1, b2, b3, b4, b5, b6, b7⟩ := y
  simp only [T7.val]
  by_cases h1 : a1 = b1
  · subst h1
    by_cases h2 : a2 = b2
    · subst h2
      by_cases h3 : a3 = b3
      · subst h3
        by_cases h4 : a4 = b4
        · subst h4
          by_cases h5 : a5 = b5
          · subst h5
            by_cases h6 : a6 = b6
            · subst h6
              by_cases h7 : a7 = b7
              · subst h7
                go_simp
              · have hb : (a7 == b7) = false := by simpa using h7
                go_simp
            · have hb : (a6 == b6) = false := by simpa using h6
              go_simp
          · have hb : (a5 == b5) = false := by simpa using h5
            go_simp
        · have hb : (a4 == b4) = false := by simpa using h4
          go_simp
      · have hb : (a3 == b3) = false := by simpa using h3
        go_simp
    · have hb : (a2 == b2) = false := by simpa using h2
      go_simp
  · have hb : (a1 == b1) = false := by simpa using h1
    go_simp
theorem trade_ne (x y : T7) (w : World) : (binOp .neq 31 x.val y.val).run Try.prog w = .ok (.bool (!decide (x = y))) w := by
  have h := trade_eq x y w
  simp only [T7.val] at h ⊢
  rw [run_eql_struct] at h
  rw [run_neq_struct]
  cases hr : (Op.equalIn 10000 31 (Value.agg #[.int .i64 x.id, .int .i64 x.buyer, .int .i64 x.seller, .int .i64 x.cash, .int .i64 x.price, .int .i64 x.asset, .int .i64 x.qty]) (Value.agg #[.int .i64 y.id, .int .i64 y.buyer, .int .i64 y.seller, .int .i64 y.cash, .int .i64 y.price, .int .i64 y.asset, .int .i64 y.qty])).run Try.prog w with
  | ok v w1 =>
    rw [hr] at h
    simp only [Result.andThen_ok, Result.ok.injEq, Value.bool.injEq] at h ⊢
    obtain ⟨rfl, rfl⟩ := h
    exact ⟨rfl, rfl⟩
  | halt x w1 => rw [hr] at h; simp [Result.andThen] at h
end Go.Proofs.Ytdpaklpaanojpaa
