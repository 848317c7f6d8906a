/- cfllaw8: a journal that a statement plays with; the disk that is new; first. -/
import Derived.Test.YtlkphkkjpjlnhaaJOpenB
import Derived.Test.YtlkphkkjpjlnhaaJAppend
import Derived.Test.YtlkphkkjpjlnhaaJCompact
import Derived.Test.YtlkphkkjpjlnhaaJPlainD
import Derived.Test.YtlkphkkjpjlnhaaJPic
import Derived.Test.YtlkphkkjpjlnhaaRefLists
namespace Go.Proofs.Ytlkphkkjpjlnhaa
open Go.RowKit
theorem mem_secs {c : List (List UInt8)} {base k : Nat} {x : UInt8} (h : x ∈ secs c base k) : ∃ l ∈ c, x ∈ l := by
  unfold secs at h
  obtain ⟨l, h1, h2⟩ := List.mem_flatten.1 h
  exact ⟨l, List.mem_of_mem_drop (List.mem_of_mem_take h1), h2⟩
theorem freshDisk_good (n : Nat) : Good (freshDisk n) n := by
  have hc : (freshDisk n).curs = List.replicate n zeros64 := curs_none _ _ _
  refine ⟨rfl, rfl, by simp [freshDisk], ?_⟩
  rw [hc]
  intro x hx
  rw [(List.mem_replicate.1 hx).2]
  simp [zeros64]
theorem freshDisk_PI (n N : Nat) (hN : n / 2 = N) (hn : n ≤ 8192) : PI (freshDisk n).curs N (JS.fresh (freshDisk n)) := by
  have hg := freshDisk_good n
  have hc : (freshDisk n).curs = List.replicate n zeros64 := curs_none _ _ _
  have hz : ∀ G base k, noF G (secs (freshDisk n).curs base k) := fun G base k => noF_none (getF_mark0 (fun e => by
    have hm := List.mem_of_getElem? e
    rw [hc] at hm
    obtain ⟨l, h1, h2⟩ := mem_secs hm
    rw [(List.mem_replicate.1 h1).2] at h2
    have := (List.mem_replicate.1 h2).2
    exact absurd this (by decide)))
  exact ⟨rfl, ⟨Nat.zero_le _, Nat.zero_le _, Nat.le_refl _, Nat.zero_le _⟩, fun _ => ⟨rfl, rfl, rfl⟩, ⟨Nat.zero_le _, fun r hr => by simp [JS.fresh] at hr⟩, rfl, ⟨by rw [hg.clen]; omega, by omega⟩, hg.all64, by simp [JS.fresh, secs, JS.img, recsImg], fun p _ => hz _ _ _, fun p _ _ => hz _ _ _, fun p _ => hz _ _ _⟩
theorem IsDT.of {F C : Nat → Prop} {w : World} {tb db bl bm : Nat} {d : DS} (hd : IsDisk w db bl bm C d) (ht : IsTab w tb) (hC : ∀ k, foot db bl bm C k → k < w.heap.size → F k ∧ k ≠ tb) : IsDT F w tb db bl bm d := by
  obtain ⟨vl, h1, _⟩ := hd.lasts
  obtain ⟨vm, h4, _⟩ := hd.pend
  have a1 := heap_lt hd.obj
  have a2 := heap_lt h1
  have a3 := h4.lt
  refine ⟨ht, _, hd.here, fun k hk => ?_⟩
  have hlt : k < w.heap.size := by
    rcases hk with h | h | h | h
    · omega
    · omega
    · omega
    · exact h.2
  have hf : foot db bl bm C k := by
    rcases hk with h | h | h | h
    · exact .inl h
    · exact .inr (.inl h)
    · exact .inr (.inr (.inl h))
    · exact .inr (.inr (.inr h.1))
  exact ⟨(hC k hf hlt).1, (hC k hf hlt).2, hlt⟩
/-- the journal's methods that only tell, by IsJD -/
theorem jdPicture {F : Nat → Prop} {jb tb db bl bm : Nat} {s : JS} {d : DS} {w : World} (h : IsJD F w jb tb db bl bm s d) (hl : s.pict.length ≤ 60000) :
    Calls Try.prog 10 #[.pointer (some ⟨jb, 0, none⟩)] w fun e w' => ∃ p c, e = .returned (.tuple #[.slice p s.pict.length c, .bool s.has]) ∧ IsVec (fun k => w.heap.size ≤ k) w' 5 1 (.slice p s.pict.length c) s.pict.length (bys s.pict) ∧ Mod nil w w' := by
  obtain ⟨S, C, hj, -⟩ := h.ex
  exact jPicture S jb tb db s w hj hl
theorem jdRecords {F : Nat → Prop} {jb tb db bl bm : Nat} {s : JS} {d : DS} {w : World} (h : IsJD F w jb tb db bl bm s d) (hl : ∀ r ∈ s.recs, r.length ≤ 60000) (hn : s.recs.length ≤ 100000) :
    Calls Try.prog 13 #[.pointer (some ⟨jb, 0, none⟩)] w fun e w' => ∃ p c, e = .returned (.slice p s.recs.length c) ∧ IsTexts (fun k => w.heap.size ≤ k) w' (.slice p s.recs.length c) s.recs.length s.recs ∧ Mod nil w w' := by
  obtain ⟨S, C, hj, -⟩ := h.ex
  refine (jRecords S jb tb db s w hj hl hn).mono ?_
  rintro e w' ⟨v, rfl, hv, hm⟩
  obtain ⟨p, c, rfl⟩ := hv.form
  exact ⟨p, c, rfl, hv, hm⟩
theorem jdGen {F : Nat → Prop} {jb tb db bl bm : Nat} {s : JS} {d : DS} {w : World} (h : IsJD F w jb tb db bl bm s d) :
    Calls Try.prog 15 #[.pointer (some ⟨jb, 0, none⟩)] w fun e w' => e = .returned (.int .i64 s.gen) ∧ w = w' := by
  obtain ⟨S, C, hj, -⟩ := h.ex
  exact jGen S jb tb db s w hj
theorem jdRoom {F : Nat → Prop} {jb tb db bl bm : Nat} {s : JS} {d : DS} {w : World} (h : IsJD F w jb tb db bl bm s d) (ha : s.at_ ≤ d.lasts.length / 2) :
    Calls Try.prog 14 #[.pointer (some ⟨jb, 0, none⟩)] w fun e w' => e = .returned (.int .i64 ((d.lasts.length / 2 - s.at_ : Nat) : Int)) ∧ Mod nil w w' := by
  obtain ⟨S, C, hj, hd, -⟩ := h.ex
  refine (jRoom S jb tb db bl bm C d s w hj hd (by have := hd.room; omega)).mono ?_
  rintro e w' ⟨rfl, n, rfl⟩
  exact ⟨by congr 2; omega, (Mod.refl _ _).drewN n⟩
theorem jdPending {F : Nat → Prop} {jb tb db bl bm : Nat} {s : JS} {d : DS} {w : World} (h : IsJD F w jb tb db bl bm s d) :
    Calls Try.prog 16 #[.pointer (some ⟨db, 0, none⟩)] w fun e w' => e = .returned (.int .i64 d.pend.length) ∧ w = w' := by
  obtain ⟨S, C, hj, hd, -⟩ := h.ex
  exact diskPending db bl bm C d w hd
theorem IsTab.modAt {w w' : World} {tb : Nat} (h : IsTab w tb) (m : Mod nil w w') : IsTab w' tb := h.mod m (not_nil _)
set_option maxHeartbeats 1000000 in
theorem jFirst (w : World) : Calls Try.prog 4 #[] w fun e w' => e = .returned (.bool true) ∧ Mod nil w w' := by
  refine (?_ : ∀ Post : Ending → World → Prop, Hid (∀ e w', (e = .returned (.bool true) ∧ Mod nil w w') → Post e w') → Calls Try.prog 4 #[] w Post) _ (Lib.hid (fun _ _ h => h))
  intro Post HPOST
  go_enter Try.func4, Try.ntmps4
  go_wp2_with fail
  refine (diskNew 8 w (by omega) (by omega)).mono ?_
  rintro e w1 ⟨db, bl, bm, C, rfl, hd1, hfoot, hm1⟩
  obtain ⟨d, hd⟩ : ∃ d, freshDisk 8 = d := ⟨_, rfl⟩
  have HG : Hid (Good d 8) := Lib.hid (by rw [← hd]; exact freshDisk_good 8)
  have HP : Hid (PI d.curs 4 (JS.fresh d)) := Lib.hid (by rw [← hd]; exact freshDisk_PI 8 4 rfl (by omega))
  rw [hd] at hd1
  clear hd
  go_wp2_with fail
  refine (shaNewTable w1).mono ?_
  rintro e w2 ⟨tb, rfl, ht2, htb, hm2⟩
  have HDT : Hid (IsDT (fun k => w.heap.size ≤ k) w2 tb db bl bm d) := Lib.hid (IsDT.of (hd1.here.modNil hm2) ht2 (fun k hk _ => by
    obtain ⟨vl, h1, _⟩ := hd1.lasts
    obtain ⟨vm, h4, _⟩ := hd1.pend
    have a1 := heap_lt hd1.obj
    have a2 := heap_lt h1
    have a3 := h4.lt
    have q1 := hfoot db (.inl rfl)
    have q2 := hfoot bl (.inr (.inl rfl))
    have q3 := hfoot bm (.inr (.inr (.inl rfl)))
    rcases hk with h | h | h | h
    · omega
    · omega
    · omega
    · have := h.2; have := hfoot k (.inr (.inr (.inr h.1))); omega))
  have HM2 : Hid (Mod nil w w2) := Lib.hid (hm1.thenNil hm2)
  have htb0 : w.heap.size ≤ tb := Nat.le_trans hm1.size htb
  clear hd1 hfoot hm1 ht2 hm2 htb
  go_wp2_with fail
  refine (jOpen _ tb db bl bm d w2 HDT.out).mono ?_
  rintro e w3 ⟨jb, rfl, hjb, hj3, hm3⟩
  have hop := HP.out.opens HG.out rfl
  rw [hop] at hj3
  have HJ3 := Lib.hid hj3
  have HM3 : Hid (Mod nil w w3) := Lib.hid (HM2.out.new hm3 (fun k h => by rw [h]; exact htb0))
  clear hj3 hm3 hop
  go_wp2_with fail
  refine (jdPicture HJ3.out (by simp [JS.fresh])).mono ?_
  rintro e w4 ⟨p4, c4, rfl, -, hm4⟩
  rw [show (JS.fresh d).has = false from rfl, show (JS.fresh d).pict.length = 0 from rfl]
  have HJ4 := Lib.hid (HJ3.out.modNil hm4)
  have HM4 := Lib.hid (HM3.out.thenNil hm4)
  clear hm4
  go_wp2_with fail
  refine (jdRecords HJ4.out (by simp [JS.fresh]) (by simp [JS.fresh])).mono ?_
  rintro e w5 ⟨p5, c5, rfl, -, hm5⟩
  rw [show (JS.fresh d).recs.length = 0 from rfl]
  have HJ5 := Lib.hid (HJ4.out.modNil hm5)
  have HM5 := Lib.hid (HM4.out.thenNil hm5)
  clear hm5
  go_wp2_with fail
  refine (jdGen HJ5.out).mono ?_
  rintro e w6 ⟨rfl, rfl⟩
  rw [show (JS.fresh d).gen = 0 from rfl]
  go_wp2_with fail
  refine (jdRoom HJ5.out (Nat.zero_le _)).mono ?_
  rw [HG.out.len, show (JS.fresh d).at_ = 0 from rfl]
  rintro e w7 ⟨rfl, hm7⟩
  have HE := Lib.hid (HPOST.out _ _ ⟨rfl, HM5.out.thenNil hm7⟩)
  clear hm7
  go_wp2_with fail
  exact HE.out
end Go.Proofs.Ytlkphkkjpjlnhaa
