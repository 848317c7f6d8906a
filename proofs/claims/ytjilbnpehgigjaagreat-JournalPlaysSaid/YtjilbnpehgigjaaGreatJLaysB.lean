/- Package journal: lays. (Printed by wip/tools/gen_jlaysb.py.) -/
import Derived.Test.YtjilbnpehgigjaaGreatShort
import Derived.Test.YtjilbnpehgigjaaGreatJPic
namespace Go.Proofs.YtjilbnpehgigjaaGreat
open Go.RowKit
theorem IsJ.downed {S T : Nat → Prop} {w w' : World} {jb tb db : Nat} {s : JS} (h : IsJ S w jb tb db s) (m : Mod T w w') (hs : ∀ k, k < w.heap.size → S k → ¬ T k) : IsJ S (w'.setCell ⟨jb, 2, none⟩ (.bool true)) jb tb db { s with down := true } := by
  obtain ⟨pp, cp, pr, cr, h1, h2, h3⟩ := (h.mod m hs).ex
  have g1 := heap_setCell_same h1 (.bool true) (off := 2)
  simp only [List.setIfInBounds_toArray, List.set_cons_succ, List.set_cons_zero] at g1
  have hm : Mod (· = jb) w' (w'.setCell ⟨jb, 2, none⟩ (.bool true)) := (Mod.refl _ _).setCell _ _ (fun _ => rfl)
  exact ⟨h.own, pp, cp, pr, cr, g1, h2.mod hm (fun k _ h e => h.2.1 e), h3.mod hm (fun k _ h e => h.2 e)⟩
set_option maxRecDepth 100000 in
set_option maxHeartbeats 16000000 in
theorem jLays (S C T : Nat → Prop) (jb tb db bl bm half at_ base m : Nat) (s : JS) (d : DS) (p : Option Addr) (len cap : Nat) (b : List UInt8) (w : World) (hj : IsJ S w jb tb db s) (hd : IsDisk w db bl bm C d) (hrow : IsRow T w (.slice p len cap) (bys b))
    (hT : ∀ k, T k → k < w.heap.size ∧ k ≠ jb ∧ k ≠ db ∧ k ≠ bl ∧ k ≠ bm) (hS : ∀ k, S k → ¬ foot db bl bm C k) (hlen : len = 64 * m) (hm1 : 1 ≤ m) (hm2 : m ≤ 1000) (hh : half ≤ 1) (ha : at_ ≤ 8192) (hbase : half * (d.lasts.length / 2) + at_ = base) (hcap : len ≤ cap) (hcm : cap ≤ maxLen) :
    Calls Tryz.prog 35 #[.pointer (some ⟨jb, 0, none⟩), .int .i64 half, .int .i64 at_, .slice p len cap] w fun e w' => ∃ C', e = .returned (.int .i64 (if (d.lays base b m).2 then 0 else 13)) ∧ IsDisk w' db bl bm C' (d.lays base b m).1 ∧ (∀ k, C' k → C k ∨ w.heap.size ≤ k) ∧ IsJ S w' jb tb db { s with down := s.down || !(d.lays base b m).2 } ∧ Mod (fun k => (k = db ∨ k = bl ∨ k = bm) ∨ k = jb) w w' := by
  refine (?_ : ∀ Post : Ending → World → Prop, Hid (∀ e w', (∃ C', e = .returned (.int .i64 (if (d.lays base b m).2 then 0 else 13)) ∧ IsDisk w' db bl bm C' (d.lays base b m).1 ∧ (∀ k, C' k → C k ∨ w.heap.size ≤ k) ∧ IsJ S w' jb tb db { s with down := s.down || !(d.lays base b m).2 } ∧ Mod (fun k => (k = db ∨ k = bl ∨ k = bm) ∨ k = jb) w w') → Post e w') → Calls Tryz.prog 35 #[.pointer (some ⟨jb, 0, none⟩), .int .i64 half, .int .i64 at_, .slice p len cap] w Post) _ (Lib.hid (fun _ _ h => h))
  intro Post HPOST
  have hbl : b.length = len := by
    obtain ⟨_, _, h, _⟩ := hrow
    simp only [Value.slice.injEq, bys_length] at h
    exact h.2.1.symm
  have hj3 : ¬ (jb = db ∨ jb = bl ∨ jb = bm) := fun e => hS jb hj.own (by rcases e with e | e | e; exact .inl e; exact .inr (.inl e); exact .inr (.inr (.inl e)))
  obtain ⟨pp, cp, pr, cr, hb0, -, -⟩ := hj.ex
  have c0 := cell_of hb0 1
  have z0 := free_of hb0 2
  simp only [List.getElem?_toArray, List.getElem?_cons_zero, List.getElem?_cons_succ] at c0
  have hjw := heap_lt hb0
  obtain ⟨N, hN⟩ : ∃ N, d.lasts.length / 2 = N := ⟨_, rfl⟩
  obtain ⟨LL, hLL⟩ : ∃ LL, d.lasts.length = LL := ⟨_, rfl⟩
  have hNb : N ≤ 4096 := by have := hd.room; omega
  obtain ⟨Z, hZ⟩ : ∃ Z, half * N = Z := ⟨_, rfl⟩
  have hZb : Z ≤ 4096 := by rcases (show half = 0 ∨ half = 1 by omega) with rfl | rfl <;> omega
  rw [hN, hZ] at hbase
  have hmul : IntKind.i64.wrap ((half : Int) * (N : Int)) = (Z : Int) := by
    rw [show (half : Int) * (N : Int) = ((half * N : Nat) : Int) by simp, hZ, IntKind.wrap_i64]; omega
  have hadd : IntKind.i64.wrap ((Z : Int) + (at_ : Int)) = (base : Int) := by rw [IntKind.wrap_i64]; omega
  have HB0 := Lib.hid hb0
  have HLEN := Lib.hid hlen
  have HSZ : Hid (∀ W Cx dx, IsDisk W db bl bm Cx dx → dx.lasts.length = LL → W.cell? ⟨jb, 1, none⟩ = some (.pointer (some ⟨db, 0, none⟩)) → Calls Tryz.prog 46 #[.pointer (some ⟨jb, 0, none⟩)] W fun e w' => e = .returned (.int .i64 N) ∧ W = w') := Lib.hid (fun W Cx dx h hl hc => by
    rw [← hN, hLL, ← hl]
    exact jSize jb db bl bm Cx dx W hc h)
  have HBASE := Lib.hid hbase
  have HJ := Lib.hid hj
  have HD := Lib.hid hd
  have HROW := Lib.hid hrow
  have HTT := Lib.hid hT
  have HLL := Lib.hid hLL
  have HBL := Lib.hid hbl
  have hmb : ((base : Int) + (0 : Int)) = (base : Int) := by omega
  have hbb : base ≤ 12288 := by omega
  -- the ends
  have HDOWN : Hid (∀ (CX : Nat → Prop) (DX : DS) (W : World), d.lays base b m = (DX, false) → IsDisk W db bl bm CX DX → (∀ k, CX k → C k ∨ w.heap.size ≤ k) → Mod (fun k => k = db ∨ k = bl ∨ k = bm) w W → Post (.returned (.int .i64 13)) (W.setCell ⟨jb, 2, none⟩ (.bool true))) := Lib.hid (fun CX DX W hl hdx hcx hmx => by
    have hs : Mod (· = jb) W (W.setCell ⟨jb, 2, none⟩ (.bool true)) := (Mod.refl _ _).setCell _ _ (fun _ => rfl)
    have hjc : ¬ CX jb := fun h => by rcases hcx jb h with h | h; exact hS jb hj.own (.inr (.inr (.inr h))); omega
    refine HPOST.out _ _ ⟨CX, by rw [hl]; rfl, ?_, hcx, ?_, (hmx.mono (fun _ _ h => .inl h)).trans hs (fun _ _ h => .inr h)⟩
    · rw [hl]
      exact hdx.mod hs (fun k _ h e => by
        subst e
        rcases h with h | h | h | h
        · exact hj3 (.inl h)
        · exact hj3 (.inr (.inl h))
        · exact hj3 (.inr (.inr h))
        · exact hjc h)
    · rw [hl]
      have := HJ.out.downed hmx (fun k _ h e => hS k h (by rcases e with e | e | e; exact .inl e; exact .inr (.inl e); exact .inr (.inr (.inl e))))
      simpa using this)
  have HGOOD : Hid (∀ (CX : Nat → Prop) (DX : DS) (W : World), d.lays base b m = (DX, true) → IsDisk W db bl bm CX DX → (∀ k, CX k → C k ∨ w.heap.size ≤ k) → Mod (fun k => k = db ∨ k = bl ∨ k = bm) w W → Post (.returned (.int .i64 0)) W) := Lib.hid (fun CX DX W hl hdx hcx hmx => by
    refine HPOST.out _ _ ⟨CX, by rw [hl]; rfl, by rw [hl]; exact hdx, hcx, ?_, hmx.mono (fun _ _ h => .inl h)⟩
    rw [hl]
    have := HJ.out.mod hmx (fun k _ h e => hS k h (by rcases e with e | e | e; exact .inl e; exact .inr (.inl e); exact .inr (.inr (.inl e))))
    simpa using this)
  have hlb : 64 ≤ len ∧ len ≤ 64000 := by omega
  obtain ⟨hlb1, hlb2⟩ := hlb
  clear hj hd hrow hT hS hLL hbl hbase hlen hN hZ hh ha
  clear hb0
  go_enter Tryz.func35, Tryz.ntmps35
  go_wp2_with fail
  go_loopw [9] (fun v9 wr => ∃ (k X : Nat) (C' : Nat → Prop) (d' : DS), 1 ≤ k ∧ k ≤ m ∧ v9 = .int .i64 X ∧ X ≤ len ∧ Hid (X = 64 * k) ∧ Hid (d.tails base b (m - 1) 1 = d'.tails base b (m - k) k) ∧ Hid (IsDisk wr db bl bm C' d') ∧ Hid (∀ j, C' j → C j ∨ w.heap.size ≤ j) ∧ Hid (Mod (fun k => k = db ∨ k = bl ∨ k = bm) w wr) ∧ Hid (d'.lasts.length = LL)) (fun v _ => m - (intOf v).toNat / 64)
  case atStart => exact ⟨1, 64, C, d, Nat.le_refl _, hm1, rfl, hlb1, Lib.hid rfl, Lib.hid rfl, HD, Lib.hid (fun j h => .inl h), Lib.hid (Mod.refl _ _), HLL⟩
  case round =>
    obtain ⟨k, X, C', d', hk1, hkm, rfl, hXl, HX, HTL, HDR, HCR, HMR, HLR⟩ := hrel
    have c1 := cell_kept c0 HMR.out hjw hj3
    have hjl : jb < wr.heap.size := World.block_lt_of_cell? _ _ c1
    by_cases hlt : X < len
    · have hkm' : k < m := by have := HX.out; have := HLEN.out; omega
      have hX64 : X + 64 ≤ len := by have := HX.out; have := HLEN.out; omega
      have hXe := HX.out
      have hdiv : (X : Int) / 64 = (k : Int) := by omega
      have hkw : IntKind.i64.wrap (k : Int) = (k : Int) := by rw [IntKind.wrap_i64]; omega
      have hX6 : IntKind.i64.wrap ((X : Int) + 64) = (X : Int) + 64 := by rw [IntKind.wrap_i64]; omega
      have hbk : IntKind.i64.wrap ((base : Int) + (k : Int)) = (base : Int) + (k : Int) := by rw [IntKind.wrap_i64]; omega
      obtain ⟨p2, hsl, hrowsl⟩ := slice_cut T p len cap X (X + 64) b w HROW.out (by omega) hX64 hcap
      rw [show X + 64 - X = 64 by omega] at hsl hrowsl
      rw [show ((X + 64 : Nat) : Int) = (X : Int) + 64 by simp] at hsl
      have hrw : IsRow T wr (.slice p2 64 (cap - X)) (bys (sectAt b k)) := by
        have h := hrowsl wr (HROW.out.mod HMR.out (fun j _ h e => by have := HTT.out j h; omega))
        unfold sectAt
        rw [← hXe]
        exact h
      obtain ⟨r, hr⟩ : ∃ r, (d'.write ((base + k : Nat) : Int) (sectAt b k)).2 = r := ⟨_, rfl⟩
      obtain ⟨d2, hd2⟩ : ∃ d2, (d'.write ((base + k : Nat) : Int) (sectAt b k)).1 = d2 := ⟨_, rfl⟩
      have hlen2 : d2.lasts.length = LL := by rw [← hd2, DS.write_len, HLR.out]
      have hsl64 : (sectAt b k).length ≤ 9223372036854775807 := by unfold sectAt; rw [List.length_take]; omega
      have HW : Hid (∀ W, Mod nil wr W → Calls Tryz.prog 24 #[.pointer (some ⟨db, 0, none⟩), .int .i64 ((base : Int) + (k : Int)), .slice p2 64 (cap - X)] W fun e w' => ∃ Cb, e = .returned (.int .i64 r) ∧ IsDisk w' db bl bm Cb d2 ∧ (∀ j, Cb j → C j ∨ w.heap.size ≤ j) ∧ Mod (fun k => k = db ∨ k = bl ∨ k = bm) wr w') := Lib.hid (fun W hmW => by
        rw [show (base : Int) + (k : Int) = ((base + k : Nat) : Int) by simp, ← hr, ← hd2]
        refine (diskWrite db bl bm C' T d' ((base + k : Nat) : Int) _ (sectAt b k) W (HDR.out.modNil hmW) (hrw.modNil hmW) (fun h => (HTT.out db h).2.2.1 rfl) hsl64).mono ?_
        rintro e w' ⟨Cb, rfl, h1, h2, h3⟩
        exact ⟨Cb, rfl, h1, fun j h => (h2 j h).elim (HCR.out j) (fun h => .inr (by have := HMR.out.size; have := hmW.size; omega)), hmW.ofNil.trans h3 (fun j _ h => h.elim .inl (fun h => .inr (.inr h)))⟩)
      have HSZ1 : Hid (∀ W, Mod nil wr W → Calls Tryz.prog 46 #[.pointer (some ⟨jb, 0, none⟩)] W fun e w' => e = .returned (.int .i64 N) ∧ W = w') := Lib.hid (fun W hmW => HSZ.out W C' d' (HDR.out.modNil hmW) HLR.out (cell_kept c1 hmW hjl (not_nil _)))
      have HR := Lib.hid hr
      have HD2 := Lib.hid hd2
      clear hr hd2 hrw hrowsl hXe hsl64 c0
      go_upto_region 4 with (fail)
      go_region_held3 (fun w' => w'.cell? ⟨jb, 1, none⟩ = some (.pointer (some ⟨db, 0, none⟩))) (first | exact cb | exact c1) (first
        | (go_at_call 24; refine (HW.out _ ?_).mono ?_; (repeat (first | exact Mod.refl _ _ | refine Mod.drew ?_)); rintro e wb ⟨Cb, rfl, hdb, hCb, hmb⟩; have cb := cell_kept c1 hmb hjl hj3)
        | (go_at_call 46; refine (HSZ1.out _ ?_).mono ?_; (repeat (first | exact Mod.refl _ _ | refine Mod.drew ?_)); rintro e w' ⟨rfl, rfl⟩))
      have hmwb : Mod (fun k => k = db ∨ k = bl ∨ k = bm) w wb := HMR.out.trans hmb (fun _ _ h => h)
      have HMB := Lib.hid hmwb
      have HDB := Lib.hid hdb
      have HCB := Lib.hid hCb
      have hf : m - k = (m - (k + 1)) + 1 := by omega
      have HF := Lib.hid hf
      clear hmb hmwb hdb hCb hsl hmul hadd hdiv hkw hbk HW HSZ1 c1 hf
      by_cases hr0 : r = 0
      · subst hr0
        have HT2 : Hid (d.tails base b (m - 1) 1 = d2.tails base b (m - (k + 1)) (k + 1)) := Lib.hid (by rw [HTL.out, HF.out, DS.tails_go _ _ _ _ _ HR.out, HD2.out])
        clear cb
        go_wp2_with fail
        exact ⟨⟨k + 1, X + 64, Cb, d2, by omega, by omega, by go_num, hX64, Lib.hid (by have := HX.out; omega), HT2, HDB, HCB, HMB, Lib.hid hlen2⟩, by have := HX.out; simp [intOf]; omega⟩
      · have hrn : ((r : Int) != 0) = true := by simpa using hr0
        have HLD : Hid (d.lays base b m = (d2, false)) := Lib.hid (by
          have h1 : d.tails base b (m - 1) 1 = (d2, false) := by rw [HTL.out, HF.out, DS.tails_stop _ _ _ _ _ (by rw [HR.out]; exact hr0), HD2.out]
          unfold DS.lays
          rw [h1]
          rfl)
        have hbj := (HMB.out.block jb hjw hj3).trans HB0.out
        have y2 := cell_of hbj 2
        have yz := free_of hbj 2
        simp only [List.getElem?_toArray, List.getElem?_cons_zero, List.getElem?_cons_succ] at y2
        clear hbj cb hr0 hX6
        go_wp2_with fail
        exact HDOWN.out Cb d2 wb HLD.out HDB.out HCB.out HMB.out
    · have hkm2 : k = m := by have := HX.out; have := HLEN.out; omega
      have hXl2 : X = len := by omega
      subst hkm2 hXl2
      have hL : d.lays base b k = d'.heads base b k := by
        unfold DS.lays
        rw [HTL.out, Nat.sub_self]
        rfl
      have HL := Lib.hid hL
      obtain ⟨hsl2, hrow2⟩ := slice_front T p X cap 64 b w HROW.out (by omega) hlb1 hcap
      rw [show ((64 : Nat) : Int) = (64 : Int) from rfl] at hsl2
      have hrw : IsRow T wr (.slice p 64 cap) (bys (sectAt b 0)) := by
        unfold sectAt
        rw [Nat.mul_zero, List.drop_zero]
        exact hrow2 wr (HROW.out.mod HMR.out (fun j _ h e => by have := HTT.out j h; omega))
      have HRW := Lib.hid hrw
      have h64 : (sectAt b 0).length ≤ 9223372036854775807 := by unfold sectAt; rw [List.length_take]; omega
      have HTB : Hid (¬ T db) := Lib.hid (fun h => (HTT.out db h).2.2.1 rfl)
      have HTD : Hid (∀ j, T j → ¬ (j = db ∨ j = bl ∨ j = bm)) := Lib.hid (fun j h e => by have := HTT.out j h; omega)
      have hsz := HMR.out.size
      clear hrow2 hrw hL c0 HTL
      by_cases h1 : k = 1
      · have hgt : decide ((64 : Int) < (X : Int)) = false := by have := HLEN.out; subst h1; simp; omega
        have hgt' : ¬ ((64 : Int) < (X : Int)) := by simpa using hgt
        have HC1 : Hid (¬ (1 < k ∧ d'.sync.2 ≠ 0)) := Lib.hid (fun h => by omega)
        obtain ⟨d1, hd1⟩ : ∃ d1, (if 1 < k then d'.sync.1 else d') = d1 := ⟨_, rfl⟩
        have HD1 := Lib.hid hd1
        have HLN1 : Hid (d1.lasts.length = LL) := Lib.hid (by rw [← hd1, if_neg (by omega)]; exact HLR.out)
        have hda : IsDisk wr db bl bm C' d1 := by rw [← hd1, if_neg (by omega)]; exact HDR.out
        have hma : Mod (fun k => k = db ∨ k = bl ∨ k = bm) wr wr := Mod.refl _ _
        have ca := c1
        have hja := hjl
        clear hd1
        obtain ⟨r2, hr2⟩ : ∃ r, (d1.write (base : Int) (sectAt b 0)).2 = r := ⟨_, rfl⟩
        obtain ⟨d2, hd2⟩ : ∃ d2, (d1.write (base : Int) (sectAt b 0)).1 = d2 := ⟨_, rfl⟩
        have hlen2 : d2.lasts.length = LL := by rw [← hd2, DS.write_len, HLN1.out]
        have HW1 : Hid (∀ wa W, IsDisk wa db bl bm C' d1 → Mod (fun k => k = db ∨ k = bl ∨ k = bm) wr wa → Mod nil wa W → Calls Tryz.prog 24 #[.pointer (some ⟨db, 0, none⟩), .int .i64 base, .slice p 64 cap] W fun e w' => ∃ Cb, e = .returned (.int .i64 r2) ∧ IsDisk w' db bl bm Cb d2 ∧ (∀ j, Cb j → C j ∨ w.heap.size ≤ j) ∧ Mod (fun k => k = db ∨ k = bl ∨ k = bm) wa w') := Lib.hid (fun wa W hda hma hmW => by
          rw [← hr2, ← hd2]
          refine (diskWrite db bl bm C' T d1 (base : Int) _ (sectAt b 0) W (hda.modNil hmW) ((HRW.out.mod hma (fun j _ h => HTD.out j h)).modNil hmW) HTB.out h64).mono ?_
          rintro e w' ⟨Cb, rfl, h1, h2, h3⟩
          exact ⟨Cb, rfl, h1, fun j h => (h2 j h).elim (HCR.out j) (fun h => .inr (by have := hma.size; have := hmW.size; omega)), hmW.ofNil.trans h3 (fun j _ h => h.elim .inl (fun h => .inr (.inr h)))⟩)
        have HSZ1 : Hid (∀ wa W, IsDisk wa db bl bm C' d1 → wa.cell? ⟨jb, 1, none⟩ = some (.pointer (some ⟨db, 0, none⟩)) → Mod nil wa W → Calls Tryz.prog 46 #[.pointer (some ⟨jb, 0, none⟩)] W fun e w' => e = .returned (.int .i64 N) ∧ W = w') := Lib.hid (fun wa W h hc hmW => HSZ.out W C' d1 (h.modNil hmW) HLN1.out (cell_kept hc hmW (World.block_lt_of_cell? _ _ hc) (not_nil _)))
        have HR2 := Lib.hid hr2
        have HD2 := Lib.hid hd2
        clear hr2 hd2
        by_cases hw0 : r2 = 0
        · subst hw0
          obtain ⟨r3, hr3⟩ : ∃ r, d2.sync.2 = r := ⟨_, rfl⟩
          obtain ⟨d3, hd3⟩ : ∃ d3, d2.sync.1 = d3 := ⟨_, rfl⟩
          have HS2 : Hid (∀ wb W Cx, IsDisk wb db bl bm Cx d2 → Mod nil wb W → Calls Tryz.prog 59 #[.pointer (some ⟨db, 0, none⟩)] W fun e w' => e = .returned (.int .i64 r3) ∧ IsDisk w' db bl bm Cx d3 ∧ Mod (fun k => k = db ∨ k = bl ∨ k = bm) wb w') := Lib.hid (fun wb W Cx h hmW => by
            rw [← hr3, ← hd3]
            refine (diskSync db bl bm Cx d2 W (h.modNil hmW)).mono ?_
            rintro e w' ⟨rfl, h1, h2⟩
            exact ⟨rfl, h1, hmW.ofNil.trans h2 (fun _ _ h => h)⟩)
          have HR3 := Lib.hid hr3
          have HD3 := Lib.hid hd3
          have hor : r3 = 0 ∨ r3 = 13 := by rw [← hr3]; exact d2.sync_err
          clear hr3 hd3
          rcases hor with rfl | rfl
          · go_upto_region 8 with (fail)
            refine wp_region_held_drew (S := fun w' => w'.cell? ⟨jb, 1, none⟩ = some (.pointer (some ⟨db, 0, none⟩))) (by kernel_rfl) (c1) (fun hHeld => ?_)
            refine tH 0 ?_
            (try simp only [Act.put, pT])
            refine tH 1 ?_
            (try simp only [Act.put, pT])
            refine tH 2 ?_
            (try simp only [Act.put, pT])
            refine tH 3 ?_
            (try simp only [Act.put, pT])
            refine wpAnyH_take (i := 4) (v := undef) rfl (by kernel_rfl) (by kernel_rfl) (by kernel_rfl) (fun _ _ _ h => h) (Or.inr ⟨by kernel_rfl, rfl⟩) (by assumption) ?_
            (try simp only [Act.put, pT])
            refine wpAnyH_take (i := 5) (v := undef) rfl (by kernel_rfl) (by kernel_rfl) (by kernel_rfl) (fun _ _ _ h => h) (Or.inr ⟨by kernel_rfl, rfl⟩) (by assumption) ?_
            (try simp only [Act.put, pT])
            refine wpAnyH_take (i := 6) (v := undef) rfl (by kernel_rfl) (by kernel_rfl) (by kernel_rfl) (fun _ _ _ h => h) (Or.inr ⟨by kernel_rfl, rfl⟩) (by assumption) ?_
            (try simp only [Act.put, pT])
            refine wpAnyH_take (i := 7) (v := undef) rfl (by kernel_rfl) (by kernel_rfl) (by kernel_rfl) (fun _ _ _ h => h) (Or.inr ⟨by kernel_rfl, rfl⟩) (by assumption) ?_
            (try simp only [Act.put, pT])
            refine wpAnyH_take (i := 8) (v := undef) rfl (by kernel_rfl) (by kernel_rfl) (by kernel_rfl) (fun _ _ _ h => h) (Or.inr ⟨by kernel_rfl, rfl⟩) (by assumption) ?_
            (try simp only [Act.put, pT])
            refine wpAnyH_take (i := 9) (v := undef) rfl (by kernel_rfl) (by kernel_rfl) (by kernel_rfl) (fun _ _ _ h => h) (Or.inr ⟨by kernel_rfl, rfl⟩) (by assumption) ?_
            (try simp only [Act.put, pT])
            refine tH 10 ?_
            (try simp only [Act.put, pT])
            refine tH 11 ?_
            (try simp only [Act.put, pT])
            refine tH 12 ?_
            (try simp only [Act.put, pT])
            refine tH 13 ?_
            (try simp only [Act.put, pT])
            refine tH 14 ?_
            (try simp only [Act.put, pT])
            refine tH 15 ?_
            (try simp only [Act.put, pT])
            refine tH 16 ?_
            (try simp only [Act.put, pT])
            refine tH 17 ?_
            (try simp only [Act.put, pT])
            refine tH 20 ?_
            (try simp only [Act.put, pT])
            refine tH 22 ?_
            (try simp only [Act.put, pT])
            refine tH 23 ?_
            (try simp only [Act.put, pT])
            refine wpAnyH_ready (rs := [18]) (by kernel_rfl) (by simp) ?_
            refine AllReadyH.cons (i := 18) rfl (fun K hK => ?_) AllReadyH.nil
            (try dsimp (config := { proj := false }) only [g0, g1, g2])
            go_simp
            refine (HSZ1.out wr _ hda ca ?_).mono ?_
            · (repeat (first | exact Mod.refl _ _ | refine Mod.drew ?_))
            rintro e w' ⟨rfl, rfl⟩
            refine hK.out _ _ ca (fun hHeld => ?_)
            clear hK K
            (try simp only [Act.put, pT])
            refine tH 19 ?_
            (try simp only [Act.put, pT])
            refine tH 21 ?_
            (try simp only [Act.put, pT])
            refine wpAnyH_ready (rs := [24]) (by kernel_rfl) (by simp) ?_
            refine AllReadyH.cons (i := 24) rfl (fun K hK => ?_) AllReadyH.nil
            (try dsimp (config := { proj := false }) only [g0, g1, g2])
            go_simp
            refine (HW1.out wr _ hda hma ?_).mono ?_
            · (repeat (first | exact Mod.refl _ _ | refine Mod.drew ?_))
            rintro e wb ⟨Cb, rfl, hdb, hCb, hmb⟩
            have cb := cell_kept ca hmb hja hj3
            have hjb := World.block_lt_of_cell? _ _ cb
            refine hK.out _ _ cb (fun hHeld => ?_)
            clear hK K
            (try simp only [Act.put, pT])
            refine tH 25 ?_
            (try simp only [Act.put, pT])
            refine tH 26 ?_
            (try simp only [Act.put, pT])
            refine tH 27 ?_
            (try simp only [Act.put, pT])
            refine tH 28 ?_
            (try simp only [Act.put, pT])
            refine tH 29 ?_
            (try simp only [Act.put, pT])
            refine tH 30 ?_
            (try simp only [Act.put, pT])
            refine tH 31 ?_
            (try simp only [Act.put, pT])
            refine wpAnyH_ready (rs := [32]) (by kernel_rfl) (by simp) ?_
            refine AllReadyH.cons (i := 32) rfl (fun K hK => ?_) AllReadyH.nil
            (try dsimp (config := { proj := false }) only [g0, g1, g2])
            go_simp
            refine (HS2.out wb _ _ hdb ?_).mono ?_
            · (repeat (first | exact Mod.refl _ _ | refine Mod.drew ?_))
            rintro e wc ⟨rfl, hdc, hmc⟩
            have cc := cell_kept cb hmc hjb hj3
            refine hK.out _ _ cc (fun hHeld => ?_)
            clear hK K
            (try simp only [Act.put, pT])
            refine tH 33 ?_
            (try simp only [Act.put, pT])
            refine tH 34 ?_
            (try simp only [Act.put, pT])
            refine wpAnyH_done (by kernel_rfl) ?_ _
            have HMX : Hid (Mod (fun k => k = db ∨ k = bl ∨ k = bm) w wc) := Lib.hid (((HMR.out.trans (Mod.refl _ _) (fun _ _ h => h)).trans hmb (fun _ _ h => h)).trans hmc (fun _ _ h => h))
            have HDX := Lib.hid hdc
            have HCX : Hid (∀ j, Cb j → C j ∨ w.heap.size ≤ j) := Lib.hid (hCb)
            have HLD : Hid (d.lays base b k = (d3, true)) := Lib.hid (by rw [HL.out]; unfold DS.heads; rw [if_neg HC1.out, HD1.out]; rw [if_neg (by rw [HR2.out]; exact fun h => h rfl), HD2.out, HD3.out, HR3.out]; rfl)
            go_wp2_with fail
            exact HGOOD.out Cb d3 wc HLD.out HDX.out HCX.out HMX.out
          · go_upto_region 8 with (fail)
            refine wp_region_held_drew (S := fun w' => w'.cell? ⟨jb, 1, none⟩ = some (.pointer (some ⟨db, 0, none⟩))) (by kernel_rfl) (c1) (fun hHeld => ?_)
            refine tH 0 ?_
            (try simp only [Act.put, pT])
            refine tH 1 ?_
            (try simp only [Act.put, pT])
            refine tH 2 ?_
            (try simp only [Act.put, pT])
            refine tH 3 ?_
            (try simp only [Act.put, pT])
            refine wpAnyH_take (i := 4) (v := undef) rfl (by kernel_rfl) (by kernel_rfl) (by kernel_rfl) (fun _ _ _ h => h) (Or.inr ⟨by kernel_rfl, rfl⟩) (by assumption) ?_
            (try simp only [Act.put, pT])
            refine wpAnyH_take (i := 5) (v := undef) rfl (by kernel_rfl) (by kernel_rfl) (by kernel_rfl) (fun _ _ _ h => h) (Or.inr ⟨by kernel_rfl, rfl⟩) (by assumption) ?_
            (try simp only [Act.put, pT])
            refine wpAnyH_take (i := 6) (v := undef) rfl (by kernel_rfl) (by kernel_rfl) (by kernel_rfl) (fun _ _ _ h => h) (Or.inr ⟨by kernel_rfl, rfl⟩) (by assumption) ?_
            (try simp only [Act.put, pT])
            refine wpAnyH_take (i := 7) (v := undef) rfl (by kernel_rfl) (by kernel_rfl) (by kernel_rfl) (fun _ _ _ h => h) (Or.inr ⟨by kernel_rfl, rfl⟩) (by assumption) ?_
            (try simp only [Act.put, pT])
            refine wpAnyH_take (i := 8) (v := undef) rfl (by kernel_rfl) (by kernel_rfl) (by kernel_rfl) (fun _ _ _ h => h) (Or.inr ⟨by kernel_rfl, rfl⟩) (by assumption) ?_
            (try simp only [Act.put, pT])
            refine wpAnyH_take (i := 9) (v := undef) rfl (by kernel_rfl) (by kernel_rfl) (by kernel_rfl) (fun _ _ _ h => h) (Or.inr ⟨by kernel_rfl, rfl⟩) (by assumption) ?_
            (try simp only [Act.put, pT])
            refine tH 10 ?_
            (try simp only [Act.put, pT])
            refine tH 11 ?_
            (try simp only [Act.put, pT])
            refine tH 12 ?_
            (try simp only [Act.put, pT])
            refine tH 13 ?_
            (try simp only [Act.put, pT])
            refine tH 14 ?_
            (try simp only [Act.put, pT])
            refine tH 15 ?_
            (try simp only [Act.put, pT])
            refine tH 16 ?_
            (try simp only [Act.put, pT])
            refine tH 17 ?_
            (try simp only [Act.put, pT])
            refine tH 20 ?_
            (try simp only [Act.put, pT])
            refine tH 22 ?_
            (try simp only [Act.put, pT])
            refine tH 23 ?_
            (try simp only [Act.put, pT])
            refine wpAnyH_ready (rs := [18]) (by kernel_rfl) (by simp) ?_
            refine AllReadyH.cons (i := 18) rfl (fun K hK => ?_) AllReadyH.nil
            (try dsimp (config := { proj := false }) only [g0, g1, g2])
            go_simp
            refine (HSZ1.out wr _ hda ca ?_).mono ?_
            · (repeat (first | exact Mod.refl _ _ | refine Mod.drew ?_))
            rintro e w' ⟨rfl, rfl⟩
            refine hK.out _ _ ca (fun hHeld => ?_)
            clear hK K
            (try simp only [Act.put, pT])
            refine tH 19 ?_
            (try simp only [Act.put, pT])
            refine tH 21 ?_
            (try simp only [Act.put, pT])
            refine wpAnyH_ready (rs := [24]) (by kernel_rfl) (by simp) ?_
            refine AllReadyH.cons (i := 24) rfl (fun K hK => ?_) AllReadyH.nil
            (try dsimp (config := { proj := false }) only [g0, g1, g2])
            go_simp
            refine (HW1.out wr _ hda hma ?_).mono ?_
            · (repeat (first | exact Mod.refl _ _ | refine Mod.drew ?_))
            rintro e wb ⟨Cb, rfl, hdb, hCb, hmb⟩
            have cb := cell_kept ca hmb hja hj3
            have hjb := World.block_lt_of_cell? _ _ cb
            refine hK.out _ _ cb (fun hHeld => ?_)
            clear hK K
            (try simp only [Act.put, pT])
            refine tH 25 ?_
            (try simp only [Act.put, pT])
            refine tH 26 ?_
            (try simp only [Act.put, pT])
            refine tH 27 ?_
            (try simp only [Act.put, pT])
            refine tH 28 ?_
            (try simp only [Act.put, pT])
            refine tH 29 ?_
            (try simp only [Act.put, pT])
            refine tH 30 ?_
            (try simp only [Act.put, pT])
            refine tH 31 ?_
            (try simp only [Act.put, pT])
            refine wpAnyH_ready (rs := [32]) (by kernel_rfl) (by simp) ?_
            refine AllReadyH.cons (i := 32) rfl (fun K hK => ?_) AllReadyH.nil
            (try dsimp (config := { proj := false }) only [g0, g1, g2])
            go_simp
            refine (HS2.out wb _ _ hdb ?_).mono ?_
            · (repeat (first | exact Mod.refl _ _ | refine Mod.drew ?_))
            rintro e wc ⟨rfl, hdc, hmc⟩
            have cc := cell_kept cb hmc hjb hj3
            refine hK.out _ _ cc (fun hHeld => ?_)
            clear hK K
            (try simp only [Act.put, pT])
            refine tH 33 ?_
            (try simp only [Act.put, pT])
            refine tH 34 ?_
            (try simp only [Act.put, pT])
            refine wpAnyH_done (by kernel_rfl) ?_ _
            have hmx : Mod (fun k => k = db ∨ k = bl ∨ k = bm) w wc := ((HMR.out.trans (Mod.refl _ _) (fun _ _ h => h)).trans hmb (fun _ _ h => h)).trans hmc (fun _ _ h => h)
            have HMX := Lib.hid hmx
            have HDX := Lib.hid hdc
            have HCX : Hid (∀ j, Cb j → C j ∨ w.heap.size ≤ j) := Lib.hid (hCb)
            have HLD : Hid (d.lays base b k = (d3, false)) := Lib.hid (by rw [HL.out]; unfold DS.heads; rw [if_neg HC1.out, HD1.out]; rw [if_neg (by rw [HR2.out]; exact fun h => h rfl), HD2.out, HD3.out, HR3.out]; rfl)
            have hbj := (HMX.out.block jb hjw hj3).trans HB0.out
            have y2 := cell_of hbj 2
            have yz := free_of hbj 2
            simp only [List.getElem?_toArray, List.getElem?_cons_zero, List.getElem?_cons_succ] at y2
            clear hbj hmx
            go_wp2_with fail
            exact HDOWN.out Cb d3 wc HLD.out HDX.out HCX.out HMX.out
        · have hrn : ((r2 : Int) != 0) = true := by simpa using hw0
          go_upto_region 8 with (fail)
          refine wp_region_held_drew (S := fun w' => w'.cell? ⟨jb, 1, none⟩ = some (.pointer (some ⟨db, 0, none⟩))) (by kernel_rfl) (c1) (fun hHeld => ?_)
          refine tH 0 ?_
          (try simp only [Act.put, pT])
          refine tH 1 ?_
          (try simp only [Act.put, pT])
          refine tH 2 ?_
          (try simp only [Act.put, pT])
          refine tH 3 ?_
          (try simp only [Act.put, pT])
          refine wpAnyH_take (i := 4) (v := undef) rfl (by kernel_rfl) (by kernel_rfl) (by kernel_rfl) (fun _ _ _ h => h) (Or.inr ⟨by kernel_rfl, rfl⟩) (by assumption) ?_
          (try simp only [Act.put, pT])
          refine wpAnyH_take (i := 5) (v := undef) rfl (by kernel_rfl) (by kernel_rfl) (by kernel_rfl) (fun _ _ _ h => h) (Or.inr ⟨by kernel_rfl, rfl⟩) (by assumption) ?_
          (try simp only [Act.put, pT])
          refine wpAnyH_take (i := 6) (v := undef) rfl (by kernel_rfl) (by kernel_rfl) (by kernel_rfl) (fun _ _ _ h => h) (Or.inr ⟨by kernel_rfl, rfl⟩) (by assumption) ?_
          (try simp only [Act.put, pT])
          refine wpAnyH_take (i := 7) (v := undef) rfl (by kernel_rfl) (by kernel_rfl) (by kernel_rfl) (fun _ _ _ h => h) (Or.inr ⟨by kernel_rfl, rfl⟩) (by assumption) ?_
          (try simp only [Act.put, pT])
          refine wpAnyH_take (i := 8) (v := undef) rfl (by kernel_rfl) (by kernel_rfl) (by kernel_rfl) (fun _ _ _ h => h) (Or.inr ⟨by kernel_rfl, rfl⟩) (by assumption) ?_
          (try simp only [Act.put, pT])
          refine wpAnyH_take (i := 9) (v := undef) rfl (by kernel_rfl) (by kernel_rfl) (by kernel_rfl) (fun _ _ _ h => h) (Or.inr ⟨by kernel_rfl, rfl⟩) (by assumption) ?_
          (try simp only [Act.put, pT])
          refine tH 10 ?_
          (try simp only [Act.put, pT])
          refine tH 11 ?_
          (try simp only [Act.put, pT])
          refine tH 12 ?_
          (try simp only [Act.put, pT])
          refine tH 13 ?_
          (try simp only [Act.put, pT])
          refine tH 14 ?_
          (try simp only [Act.put, pT])
          refine tH 15 ?_
          (try simp only [Act.put, pT])
          refine tH 16 ?_
          (try simp only [Act.put, pT])
          refine tH 17 ?_
          (try simp only [Act.put, pT])
          refine tH 20 ?_
          (try simp only [Act.put, pT])
          refine tH 22 ?_
          (try simp only [Act.put, pT])
          refine tH 23 ?_
          (try simp only [Act.put, pT])
          refine wpAnyH_ready (rs := [18]) (by kernel_rfl) (by simp) ?_
          refine AllReadyH.cons (i := 18) rfl (fun K hK => ?_) AllReadyH.nil
          (try dsimp (config := { proj := false }) only [g0, g1, g2])
          go_simp
          refine (HSZ1.out wr _ hda ca ?_).mono ?_
          · (repeat (first | exact Mod.refl _ _ | refine Mod.drew ?_))
          rintro e w' ⟨rfl, rfl⟩
          refine hK.out _ _ ca (fun hHeld => ?_)
          clear hK K
          (try simp only [Act.put, pT])
          refine tH 19 ?_
          (try simp only [Act.put, pT])
          refine tH 21 ?_
          (try simp only [Act.put, pT])
          refine wpAnyH_ready (rs := [24]) (by kernel_rfl) (by simp) ?_
          refine AllReadyH.cons (i := 24) rfl (fun K hK => ?_) AllReadyH.nil
          (try dsimp (config := { proj := false }) only [g0, g1, g2])
          go_simp
          refine (HW1.out wr _ hda hma ?_).mono ?_
          · (repeat (first | exact Mod.refl _ _ | refine Mod.drew ?_))
          rintro e wb ⟨Cb, rfl, hdb, hCb, hmb⟩
          have cb := cell_kept ca hmb hja hj3
          have hjb := World.block_lt_of_cell? _ _ cb
          refine hK.out _ _ cb (fun hHeld => ?_)
          clear hK K
          (try simp only [Act.put, pT])
          refine tH 25 ?_
          (try simp only [Act.put, pT])
          refine tH 26 ?_
          (try simp only [Act.put, pT])
          refine tH 27 ?_
          (try simp only [Act.put, pT])
          refine wpAnyH_take (i := 28) (v := undef) rfl (by kernel_rfl) (by kernel_rfl) (by kernel_rfl) (fun _ _ _ h => h) (Or.inr ⟨by kernel_rfl, rfl⟩) (by assumption) ?_
          (try simp only [Act.put, pT])
          refine wpAnyH_take (i := 29) (v := undef) rfl (by kernel_rfl) (by kernel_rfl) (by kernel_rfl) (fun _ _ _ h => h) (Or.inr ⟨by kernel_rfl, rfl⟩) (by assumption) ?_
          (try simp only [Act.put, pT])
          refine wpAnyH_take (i := 30) (v := undef) rfl (by kernel_rfl) (by kernel_rfl) (by kernel_rfl) (fun _ _ _ h => h) (Or.inr ⟨by kernel_rfl, rfl⟩) (by assumption) ?_
          (try simp only [Act.put, pT])
          refine wpAnyH_take (i := 31) (v := undef) rfl (by kernel_rfl) (by kernel_rfl) (by kernel_rfl) (fun _ _ _ h => h) (Or.inr ⟨by kernel_rfl, rfl⟩) (by assumption) ?_
          (try simp only [Act.put, pT])
          refine wpAnyH_take (i := 32) (v := undef) rfl (by kernel_rfl) (by kernel_rfl) (by kernel_rfl) (fun _ _ _ h => h) (Or.inr ⟨by kernel_rfl, rfl⟩) (by assumption) ?_
          (try simp only [Act.put, pT])
          refine wpAnyH_take (i := 33) (v := undef) rfl (by kernel_rfl) (by kernel_rfl) (by kernel_rfl) (fun _ _ _ h => h) (Or.inr ⟨by kernel_rfl, rfl⟩) (by assumption) ?_
          (try simp only [Act.put, pT])
          refine tH 34 ?_
          (try simp only [Act.put, pT])
          refine wpAnyH_done (by kernel_rfl) ?_ _
          have hmx : Mod (fun k => k = db ∨ k = bl ∨ k = bm) w wb := (HMR.out.trans (Mod.refl _ _) (fun _ _ h => h)).trans hmb (fun _ _ h => h)
          have HMX := Lib.hid hmx
          have HDX := Lib.hid hdb
          have HCX : Hid (∀ j, Cb j → C j ∨ w.heap.size ≤ j) := Lib.hid (hCb)
          have HLD : Hid (d.lays base b k = (d2, false)) := Lib.hid (by rw [HL.out]; unfold DS.heads; rw [if_neg HC1.out, HD1.out]; rw [if_pos (by rw [HR2.out]; exact hw0), HD2.out])
          have hbj := (HMX.out.block jb hjw hj3).trans HB0.out
          have y2 := cell_of hbj 2
          have yz := free_of hbj 2
          simp only [List.getElem?_toArray, List.getElem?_cons_zero, List.getElem?_cons_succ] at y2
          clear hbj hmx
          go_wp2_with fail
          exact HDOWN.out Cb d2 wb HLD.out HDX.out HCX.out HMX.out
      · have hgt : decide ((64 : Int) < (X : Int)) = true := by have := HLEN.out; simp; omega
        have hgt' : (64 : Int) < (X : Int) := by simpa using hgt
        by_cases hs0 : d'.sync.2 = 0
        · have HC1 : Hid (¬ (1 < k ∧ d'.sync.2 ≠ 0)) := Lib.hid (fun h => h.2 hs0)
          obtain ⟨d1, hd1⟩ : ∃ d1, d'.sync.1 = d1 := ⟨_, rfl⟩
          have HD1 : Hid ((if 1 < k then d'.sync.1 else d') = d1) := Lib.hid (by rw [if_pos (by omega)]; exact hd1)
          have HLN1 : Hid (d1.lasts.length = LL) := Lib.hid (by rw [← hd1, DS.sync_len]; exact HLR.out)
          have HS1 : Hid (∀ W, Mod nil wr W → Calls Tryz.prog 59 #[.pointer (some ⟨db, 0, none⟩)] W fun e w' => e = .returned (.int .i64 0) ∧ IsDisk w' db bl bm C' d1 ∧ Mod (fun k => k = db ∨ k = bl ∨ k = bm) wr w') := Lib.hid (fun W hmW => by
            refine (diskSync db bl bm C' d' W (HDR.out.modNil hmW)).mono ?_
            rintro e w' ⟨rfl, h1, h2⟩
            rw [hs0]
            rw [hd1] at h1
            exact ⟨rfl, h1, hmW.ofNil.trans h2 (fun _ _ h => h)⟩)
          clear hd1 hs0
          obtain ⟨r2, hr2⟩ : ∃ r, (d1.write (base : Int) (sectAt b 0)).2 = r := ⟨_, rfl⟩
          obtain ⟨d2, hd2⟩ : ∃ d2, (d1.write (base : Int) (sectAt b 0)).1 = d2 := ⟨_, rfl⟩
          have hlen2 : d2.lasts.length = LL := by rw [← hd2, DS.write_len, HLN1.out]
          have HW1 : Hid (∀ wa W, IsDisk wa db bl bm C' d1 → Mod (fun k => k = db ∨ k = bl ∨ k = bm) wr wa → Mod nil wa W → Calls Tryz.prog 24 #[.pointer (some ⟨db, 0, none⟩), .int .i64 base, .slice p 64 cap] W fun e w' => ∃ Cb, e = .returned (.int .i64 r2) ∧ IsDisk w' db bl bm Cb d2 ∧ (∀ j, Cb j → C j ∨ w.heap.size ≤ j) ∧ Mod (fun k => k = db ∨ k = bl ∨ k = bm) wa w') := Lib.hid (fun wa W hda hma hmW => by
            rw [← hr2, ← hd2]
            refine (diskWrite db bl bm C' T d1 (base : Int) _ (sectAt b 0) W (hda.modNil hmW) ((HRW.out.mod hma (fun j _ h => HTD.out j h)).modNil hmW) HTB.out h64).mono ?_
            rintro e w' ⟨Cb, rfl, h1, h2, h3⟩
            exact ⟨Cb, rfl, h1, fun j h => (h2 j h).elim (HCR.out j) (fun h => .inr (by have := hma.size; have := hmW.size; omega)), hmW.ofNil.trans h3 (fun j _ h => h.elim .inl (fun h => .inr (.inr h)))⟩)
          have HSZ1 : Hid (∀ wa W, IsDisk wa db bl bm C' d1 → wa.cell? ⟨jb, 1, none⟩ = some (.pointer (some ⟨db, 0, none⟩)) → Mod nil wa W → Calls Tryz.prog 46 #[.pointer (some ⟨jb, 0, none⟩)] W fun e w' => e = .returned (.int .i64 N) ∧ W = w') := Lib.hid (fun wa W h hc hmW => HSZ.out W C' d1 (h.modNil hmW) HLN1.out (cell_kept hc hmW (World.block_lt_of_cell? _ _ hc) (not_nil _)))
          have HR2 := Lib.hid hr2
          have HD2 := Lib.hid hd2
          clear hr2 hd2
          by_cases hw0 : r2 = 0
          · subst hw0
            obtain ⟨r3, hr3⟩ : ∃ r, d2.sync.2 = r := ⟨_, rfl⟩
            obtain ⟨d3, hd3⟩ : ∃ d3, d2.sync.1 = d3 := ⟨_, rfl⟩
            have HS2 : Hid (∀ wb W Cx, IsDisk wb db bl bm Cx d2 → Mod nil wb W → Calls Tryz.prog 59 #[.pointer (some ⟨db, 0, none⟩)] W fun e w' => e = .returned (.int .i64 r3) ∧ IsDisk w' db bl bm Cx d3 ∧ Mod (fun k => k = db ∨ k = bl ∨ k = bm) wb w') := Lib.hid (fun wb W Cx h hmW => by
              rw [← hr3, ← hd3]
              refine (diskSync db bl bm Cx d2 W (h.modNil hmW)).mono ?_
              rintro e w' ⟨rfl, h1, h2⟩
              exact ⟨rfl, h1, hmW.ofNil.trans h2 (fun _ _ h => h)⟩)
            have HR3 := Lib.hid hr3
            have HD3 := Lib.hid hd3
            have hor : r3 = 0 ∨ r3 = 13 := by rw [← hr3]; exact d2.sync_err
            clear hr3 hd3
            rcases hor with rfl | rfl
            · go_upto_region 8 with (fail)
              refine wp_region_held_drew (S := fun w' => w'.cell? ⟨jb, 1, none⟩ = some (.pointer (some ⟨db, 0, none⟩))) (by kernel_rfl) (c1) (fun hHeld => ?_)
              refine tH 0 ?_
              (try simp only [Act.put, pT])
              refine tH 1 ?_
              (try simp only [Act.put, pT])
              refine tH 2 ?_
              (try simp only [Act.put, pT])
              refine tH 3 ?_
              (try simp only [Act.put, pT])
              refine tH 4 ?_
              (try simp only [Act.put, pT])
              refine tH 5 ?_
              (try simp only [Act.put, pT])
              refine tH 6 ?_
              (try simp only [Act.put, pT])
              refine tH 7 ?_
              (try simp only [Act.put, pT])
              refine wpAnyH_ready (rs := [8]) (by kernel_rfl) (by simp) ?_
              refine AllReadyH.cons (i := 8) rfl (fun K hK => ?_) AllReadyH.nil
              (try dsimp (config := { proj := false }) only [g0, g1, g2])
              go_simp
              refine (HS1.out _ ?_).mono ?_
              · (repeat (first | exact Mod.refl _ _ | refine Mod.drew ?_))
              rintro e wa ⟨rfl, hda, hma⟩
              have ca := cell_kept c1 hma hjl hj3
              have hja := World.block_lt_of_cell? _ _ ca
              refine hK.out _ _ ca (fun hHeld => ?_)
              clear hK K
              (try simp only [Act.put, pT])
              refine tH 9 ?_
              (try simp only [Act.put, pT])
              refine tH 10 ?_
              (try simp only [Act.put, pT])
              refine tH 11 ?_
              (try simp only [Act.put, pT])
              refine tH 12 ?_
              (try simp only [Act.put, pT])
              refine tH 13 ?_
              (try simp only [Act.put, pT])
              refine tH 14 ?_
              (try simp only [Act.put, pT])
              refine tH 15 ?_
              (try simp only [Act.put, pT])
              refine tH 16 ?_
              (try simp only [Act.put, pT])
              refine tH 17 ?_
              (try simp only [Act.put, pT])
              refine tH 20 ?_
              (try simp only [Act.put, pT])
              refine tH 22 ?_
              (try simp only [Act.put, pT])
              refine tH 23 ?_
              (try simp only [Act.put, pT])
              refine wpAnyH_ready (rs := [18]) (by kernel_rfl) (by simp) ?_
              refine AllReadyH.cons (i := 18) rfl (fun K hK => ?_) AllReadyH.nil
              (try dsimp (config := { proj := false }) only [g0, g1, g2])
              go_simp
              refine (HSZ1.out wa _ hda ca ?_).mono ?_
              · (repeat (first | exact Mod.refl _ _ | refine Mod.drew ?_))
              rintro e w' ⟨rfl, rfl⟩
              refine hK.out _ _ ca (fun hHeld => ?_)
              clear hK K
              (try simp only [Act.put, pT])
              refine tH 19 ?_
              (try simp only [Act.put, pT])
              refine tH 21 ?_
              (try simp only [Act.put, pT])
              refine wpAnyH_ready (rs := [24]) (by kernel_rfl) (by simp) ?_
              refine AllReadyH.cons (i := 24) rfl (fun K hK => ?_) AllReadyH.nil
              (try dsimp (config := { proj := false }) only [g0, g1, g2])
              go_simp
              refine (HW1.out wa _ hda hma ?_).mono ?_
              · (repeat (first | exact Mod.refl _ _ | refine Mod.drew ?_))
              rintro e wb ⟨Cb, rfl, hdb, hCb, hmb⟩
              have cb := cell_kept ca hmb hja hj3
              have hjb := World.block_lt_of_cell? _ _ cb
              refine hK.out _ _ cb (fun hHeld => ?_)
              clear hK K
              (try simp only [Act.put, pT])
              refine tH 25 ?_
              (try simp only [Act.put, pT])
              refine tH 26 ?_
              (try simp only [Act.put, pT])
              refine tH 27 ?_
              (try simp only [Act.put, pT])
              refine tH 28 ?_
              (try simp only [Act.put, pT])
              refine tH 29 ?_
              (try simp only [Act.put, pT])
              refine tH 30 ?_
              (try simp only [Act.put, pT])
              refine tH 31 ?_
              (try simp only [Act.put, pT])
              refine wpAnyH_ready (rs := [32]) (by kernel_rfl) (by simp) ?_
              refine AllReadyH.cons (i := 32) rfl (fun K hK => ?_) AllReadyH.nil
              (try dsimp (config := { proj := false }) only [g0, g1, g2])
              go_simp
              refine (HS2.out wb _ _ hdb ?_).mono ?_
              · (repeat (first | exact Mod.refl _ _ | refine Mod.drew ?_))
              rintro e wc ⟨rfl, hdc, hmc⟩
              have cc := cell_kept cb hmc hjb hj3
              refine hK.out _ _ cc (fun hHeld => ?_)
              clear hK K
              (try simp only [Act.put, pT])
              refine tH 33 ?_
              (try simp only [Act.put, pT])
              refine tH 34 ?_
              (try simp only [Act.put, pT])
              refine wpAnyH_done (by kernel_rfl) ?_ _
              have HMX : Hid (Mod (fun k => k = db ∨ k = bl ∨ k = bm) w wc) := Lib.hid (((HMR.out.trans hma (fun _ _ h => h)).trans hmb (fun _ _ h => h)).trans hmc (fun _ _ h => h))
              have HDX := Lib.hid hdc
              have HCX : Hid (∀ j, Cb j → C j ∨ w.heap.size ≤ j) := Lib.hid (hCb)
              have HLD : Hid (d.lays base b k = (d3, true)) := Lib.hid (by rw [HL.out]; unfold DS.heads; rw [if_neg HC1.out, HD1.out]; rw [if_neg (by rw [HR2.out]; exact fun h => h rfl), HD2.out, HD3.out, HR3.out]; rfl)
              go_wp2_with fail
              exact HGOOD.out Cb d3 wc HLD.out HDX.out HCX.out HMX.out
            · go_upto_region 8 with (fail)
              refine wp_region_held_drew (S := fun w' => w'.cell? ⟨jb, 1, none⟩ = some (.pointer (some ⟨db, 0, none⟩))) (by kernel_rfl) (c1) (fun hHeld => ?_)
              refine tH 0 ?_
              (try simp only [Act.put, pT])
              refine tH 1 ?_
              (try simp only [Act.put, pT])
              refine tH 2 ?_
              (try simp only [Act.put, pT])
              refine tH 3 ?_
              (try simp only [Act.put, pT])
              refine tH 4 ?_
              (try simp only [Act.put, pT])
              refine tH 5 ?_
              (try simp only [Act.put, pT])
              refine tH 6 ?_
              (try simp only [Act.put, pT])
              refine tH 7 ?_
              (try simp only [Act.put, pT])
              refine wpAnyH_ready (rs := [8]) (by kernel_rfl) (by simp) ?_
              refine AllReadyH.cons (i := 8) rfl (fun K hK => ?_) AllReadyH.nil
              (try dsimp (config := { proj := false }) only [g0, g1, g2])
              go_simp
              refine (HS1.out _ ?_).mono ?_
              · (repeat (first | exact Mod.refl _ _ | refine Mod.drew ?_))
              rintro e wa ⟨rfl, hda, hma⟩
              have ca := cell_kept c1 hma hjl hj3
              have hja := World.block_lt_of_cell? _ _ ca
              refine hK.out _ _ ca (fun hHeld => ?_)
              clear hK K
              (try simp only [Act.put, pT])
              refine tH 9 ?_
              (try simp only [Act.put, pT])
              refine tH 10 ?_
              (try simp only [Act.put, pT])
              refine tH 11 ?_
              (try simp only [Act.put, pT])
              refine tH 12 ?_
              (try simp only [Act.put, pT])
              refine tH 13 ?_
              (try simp only [Act.put, pT])
              refine tH 14 ?_
              (try simp only [Act.put, pT])
              refine tH 15 ?_
              (try simp only [Act.put, pT])
              refine tH 16 ?_
              (try simp only [Act.put, pT])
              refine tH 17 ?_
              (try simp only [Act.put, pT])
              refine tH 20 ?_
              (try simp only [Act.put, pT])
              refine tH 22 ?_
              (try simp only [Act.put, pT])
              refine tH 23 ?_
              (try simp only [Act.put, pT])
              refine wpAnyH_ready (rs := [18]) (by kernel_rfl) (by simp) ?_
              refine AllReadyH.cons (i := 18) rfl (fun K hK => ?_) AllReadyH.nil
              (try dsimp (config := { proj := false }) only [g0, g1, g2])
              go_simp
              refine (HSZ1.out wa _ hda ca ?_).mono ?_
              · (repeat (first | exact Mod.refl _ _ | refine Mod.drew ?_))
              rintro e w' ⟨rfl, rfl⟩
              refine hK.out _ _ ca (fun hHeld => ?_)
              clear hK K
              (try simp only [Act.put, pT])
              refine tH 19 ?_
              (try simp only [Act.put, pT])
              refine tH 21 ?_
              (try simp only [Act.put, pT])
              refine wpAnyH_ready (rs := [24]) (by kernel_rfl) (by simp) ?_
              refine AllReadyH.cons (i := 24) rfl (fun K hK => ?_) AllReadyH.nil
              (try dsimp (config := { proj := false }) only [g0, g1, g2])
              go_simp
              refine (HW1.out wa _ hda hma ?_).mono ?_
              · (repeat (first | exact Mod.refl _ _ | refine Mod.drew ?_))
              rintro e wb ⟨Cb, rfl, hdb, hCb, hmb⟩
              have cb := cell_kept ca hmb hja hj3
              have hjb := World.block_lt_of_cell? _ _ cb
              refine hK.out _ _ cb (fun hHeld => ?_)
              clear hK K
              (try simp only [Act.put, pT])
              refine tH 25 ?_
              (try simp only [Act.put, pT])
              refine tH 26 ?_
              (try simp only [Act.put, pT])
              refine tH 27 ?_
              (try simp only [Act.put, pT])
              refine tH 28 ?_
              (try simp only [Act.put, pT])
              refine tH 29 ?_
              (try simp only [Act.put, pT])
              refine tH 30 ?_
              (try simp only [Act.put, pT])
              refine tH 31 ?_
              (try simp only [Act.put, pT])
              refine wpAnyH_ready (rs := [32]) (by kernel_rfl) (by simp) ?_
              refine AllReadyH.cons (i := 32) rfl (fun K hK => ?_) AllReadyH.nil
              (try dsimp (config := { proj := false }) only [g0, g1, g2])
              go_simp
              refine (HS2.out wb _ _ hdb ?_).mono ?_
              · (repeat (first | exact Mod.refl _ _ | refine Mod.drew ?_))
              rintro e wc ⟨rfl, hdc, hmc⟩
              have cc := cell_kept cb hmc hjb hj3
              refine hK.out _ _ cc (fun hHeld => ?_)
              clear hK K
              (try simp only [Act.put, pT])
              refine tH 33 ?_
              (try simp only [Act.put, pT])
              refine tH 34 ?_
              (try simp only [Act.put, pT])
              refine wpAnyH_done (by kernel_rfl) ?_ _
              have hmx : Mod (fun k => k = db ∨ k = bl ∨ k = bm) w wc := ((HMR.out.trans hma (fun _ _ h => h)).trans hmb (fun _ _ h => h)).trans hmc (fun _ _ h => h)
              have HMX := Lib.hid hmx
              have HDX := Lib.hid hdc
              have HCX : Hid (∀ j, Cb j → C j ∨ w.heap.size ≤ j) := Lib.hid (hCb)
              have HLD : Hid (d.lays base b k = (d3, false)) := Lib.hid (by rw [HL.out]; unfold DS.heads; rw [if_neg HC1.out, HD1.out]; rw [if_neg (by rw [HR2.out]; exact fun h => h rfl), HD2.out, HD3.out, HR3.out]; rfl)
              have hbj := (HMX.out.block jb hjw hj3).trans HB0.out
              have y2 := cell_of hbj 2
              have yz := free_of hbj 2
              simp only [List.getElem?_toArray, List.getElem?_cons_zero, List.getElem?_cons_succ] at y2
              clear hbj hmx
              go_wp2_with fail
              exact HDOWN.out Cb d3 wc HLD.out HDX.out HCX.out HMX.out
          · have hrn : ((r2 : Int) != 0) = true := by simpa using hw0
            go_upto_region 8 with (fail)
            refine wp_region_held_drew (S := fun w' => w'.cell? ⟨jb, 1, none⟩ = some (.pointer (some ⟨db, 0, none⟩))) (by kernel_rfl) (c1) (fun hHeld => ?_)
            refine tH 0 ?_
            (try simp only [Act.put, pT])
            refine tH 1 ?_
            (try simp only [Act.put, pT])
            refine tH 2 ?_
            (try simp only [Act.put, pT])
            refine tH 3 ?_
            (try simp only [Act.put, pT])
            refine tH 4 ?_
            (try simp only [Act.put, pT])
            refine tH 5 ?_
            (try simp only [Act.put, pT])
            refine tH 6 ?_
            (try simp only [Act.put, pT])
            refine tH 7 ?_
            (try simp only [Act.put, pT])
            refine wpAnyH_ready (rs := [8]) (by kernel_rfl) (by simp) ?_
            refine AllReadyH.cons (i := 8) rfl (fun K hK => ?_) AllReadyH.nil
            (try dsimp (config := { proj := false }) only [g0, g1, g2])
            go_simp
            refine (HS1.out _ ?_).mono ?_
            · (repeat (first | exact Mod.refl _ _ | refine Mod.drew ?_))
            rintro e wa ⟨rfl, hda, hma⟩
            have ca := cell_kept c1 hma hjl hj3
            have hja := World.block_lt_of_cell? _ _ ca
            refine hK.out _ _ ca (fun hHeld => ?_)
            clear hK K
            (try simp only [Act.put, pT])
            refine tH 9 ?_
            (try simp only [Act.put, pT])
            refine tH 10 ?_
            (try simp only [Act.put, pT])
            refine tH 11 ?_
            (try simp only [Act.put, pT])
            refine tH 12 ?_
            (try simp only [Act.put, pT])
            refine tH 13 ?_
            (try simp only [Act.put, pT])
            refine tH 14 ?_
            (try simp only [Act.put, pT])
            refine tH 15 ?_
            (try simp only [Act.put, pT])
            refine tH 16 ?_
            (try simp only [Act.put, pT])
            refine tH 17 ?_
            (try simp only [Act.put, pT])
            refine tH 20 ?_
            (try simp only [Act.put, pT])
            refine tH 22 ?_
            (try simp only [Act.put, pT])
            refine tH 23 ?_
            (try simp only [Act.put, pT])
            refine wpAnyH_ready (rs := [18]) (by kernel_rfl) (by simp) ?_
            refine AllReadyH.cons (i := 18) rfl (fun K hK => ?_) AllReadyH.nil
            (try dsimp (config := { proj := false }) only [g0, g1, g2])
            go_simp
            refine (HSZ1.out wa _ hda ca ?_).mono ?_
            · (repeat (first | exact Mod.refl _ _ | refine Mod.drew ?_))
            rintro e w' ⟨rfl, rfl⟩
            refine hK.out _ _ ca (fun hHeld => ?_)
            clear hK K
            (try simp only [Act.put, pT])
            refine tH 19 ?_
            (try simp only [Act.put, pT])
            refine tH 21 ?_
            (try simp only [Act.put, pT])
            refine wpAnyH_ready (rs := [24]) (by kernel_rfl) (by simp) ?_
            refine AllReadyH.cons (i := 24) rfl (fun K hK => ?_) AllReadyH.nil
            (try dsimp (config := { proj := false }) only [g0, g1, g2])
            go_simp
            refine (HW1.out wa _ hda hma ?_).mono ?_
            · (repeat (first | exact Mod.refl _ _ | refine Mod.drew ?_))
            rintro e wb ⟨Cb, rfl, hdb, hCb, hmb⟩
            have cb := cell_kept ca hmb hja hj3
            have hjb := World.block_lt_of_cell? _ _ cb
            refine hK.out _ _ cb (fun hHeld => ?_)
            clear hK K
            (try simp only [Act.put, pT])
            refine tH 25 ?_
            (try simp only [Act.put, pT])
            refine tH 26 ?_
            (try simp only [Act.put, pT])
            refine tH 27 ?_
            (try simp only [Act.put, pT])
            refine wpAnyH_take (i := 28) (v := undef) rfl (by kernel_rfl) (by kernel_rfl) (by kernel_rfl) (fun _ _ _ h => h) (Or.inr ⟨by kernel_rfl, rfl⟩) (by assumption) ?_
            (try simp only [Act.put, pT])
            refine wpAnyH_take (i := 29) (v := undef) rfl (by kernel_rfl) (by kernel_rfl) (by kernel_rfl) (fun _ _ _ h => h) (Or.inr ⟨by kernel_rfl, rfl⟩) (by assumption) ?_
            (try simp only [Act.put, pT])
            refine wpAnyH_take (i := 30) (v := undef) rfl (by kernel_rfl) (by kernel_rfl) (by kernel_rfl) (fun _ _ _ h => h) (Or.inr ⟨by kernel_rfl, rfl⟩) (by assumption) ?_
            (try simp only [Act.put, pT])
            refine wpAnyH_take (i := 31) (v := undef) rfl (by kernel_rfl) (by kernel_rfl) (by kernel_rfl) (fun _ _ _ h => h) (Or.inr ⟨by kernel_rfl, rfl⟩) (by assumption) ?_
            (try simp only [Act.put, pT])
            refine wpAnyH_take (i := 32) (v := undef) rfl (by kernel_rfl) (by kernel_rfl) (by kernel_rfl) (fun _ _ _ h => h) (Or.inr ⟨by kernel_rfl, rfl⟩) (by assumption) ?_
            (try simp only [Act.put, pT])
            refine wpAnyH_take (i := 33) (v := undef) rfl (by kernel_rfl) (by kernel_rfl) (by kernel_rfl) (fun _ _ _ h => h) (Or.inr ⟨by kernel_rfl, rfl⟩) (by assumption) ?_
            (try simp only [Act.put, pT])
            refine tH 34 ?_
            (try simp only [Act.put, pT])
            refine wpAnyH_done (by kernel_rfl) ?_ _
            have hmx : Mod (fun k => k = db ∨ k = bl ∨ k = bm) w wb := (HMR.out.trans hma (fun _ _ h => h)).trans hmb (fun _ _ h => h)
            have HMX := Lib.hid hmx
            have HDX := Lib.hid hdb
            have HCX : Hid (∀ j, Cb j → C j ∨ w.heap.size ≤ j) := Lib.hid (hCb)
            have HLD : Hid (d.lays base b k = (d2, false)) := Lib.hid (by rw [HL.out]; unfold DS.heads; rw [if_neg HC1.out, HD1.out]; rw [if_pos (by rw [HR2.out]; exact hw0), HD2.out])
            have hbj := (HMX.out.block jb hjw hj3).trans HB0.out
            have y2 := cell_of hbj 2
            have yz := free_of hbj 2
            simp only [List.getElem?_toArray, List.getElem?_cons_zero, List.getElem?_cons_succ] at y2
            clear hbj hmx
            go_wp2_with fail
            exact HDOWN.out Cb d2 wb HLD.out HDX.out HCX.out HMX.out
        · have HC1 : Hid (1 < k ∧ d'.sync.2 ≠ 0) := Lib.hid ⟨by omega, hs0⟩
          replace hs0 : d'.sync.2 = 13 := d'.sync_err.resolve_left hs0
          obtain ⟨d1, hd1⟩ : ∃ d1, d'.sync.1 = d1 := ⟨_, rfl⟩
          have HD1 := Lib.hid hd1
          have HS1 : Hid (∀ W, Mod nil wr W → Calls Tryz.prog 59 #[.pointer (some ⟨db, 0, none⟩)] W fun e w' => e = .returned (.int .i64 13) ∧ IsDisk w' db bl bm C' d1 ∧ Mod (fun k => k = db ∨ k = bl ∨ k = bm) wr w') := Lib.hid (fun W hmW => by
            refine (diskSync db bl bm C' d' W (HDR.out.modNil hmW)).mono ?_
            rintro e w' ⟨rfl, h1, h2⟩
            rw [hs0]
            rw [hd1] at h1
            exact ⟨rfl, h1, hmW.ofNil.trans h2 (fun _ _ h => h)⟩)
          clear hd1 hs0
          go_upto_region 8 with (fail)
          refine wp_region_held_drew (S := fun w' => w'.cell? ⟨jb, 1, none⟩ = some (.pointer (some ⟨db, 0, none⟩))) (by kernel_rfl) (c1) (fun hHeld => ?_)
          refine tH 0 ?_
          (try simp only [Act.put, pT])
          refine tH 1 ?_
          (try simp only [Act.put, pT])
          refine tH 2 ?_
          (try simp only [Act.put, pT])
          refine tH 3 ?_
          (try simp only [Act.put, pT])
          refine tH 4 ?_
          (try simp only [Act.put, pT])
          refine tH 5 ?_
          (try simp only [Act.put, pT])
          refine tH 6 ?_
          (try simp only [Act.put, pT])
          refine tH 7 ?_
          (try simp only [Act.put, pT])
          refine wpAnyH_ready (rs := [8]) (by kernel_rfl) (by simp) ?_
          refine AllReadyH.cons (i := 8) rfl (fun K hK => ?_) AllReadyH.nil
          (try dsimp (config := { proj := false }) only [g0, g1, g2])
          go_simp
          refine (HS1.out _ ?_).mono ?_
          · (repeat (first | exact Mod.refl _ _ | refine Mod.drew ?_))
          rintro e wa ⟨rfl, hda, hma⟩
          have ca := cell_kept c1 hma hjl hj3
          have hja := World.block_lt_of_cell? _ _ ca
          refine hK.out _ _ ca (fun hHeld => ?_)
          clear hK K
          (try simp only [Act.put, pT])
          refine tH 9 ?_
          (try simp only [Act.put, pT])
          refine tH 10 ?_
          (try simp only [Act.put, pT])
          refine tH 11 ?_
          (try simp only [Act.put, pT])
          refine wpAnyH_take (i := 12) (v := undef) rfl (by kernel_rfl) (by kernel_rfl) (by kernel_rfl) (fun _ _ _ h => h) (Or.inr ⟨by kernel_rfl, rfl⟩) (by assumption) ?_
          (try simp only [Act.put, pT])
          refine wpAnyH_take (i := 13) (v := undef) rfl (by kernel_rfl) (by kernel_rfl) (by kernel_rfl) (fun _ _ _ h => h) (Or.inr ⟨by kernel_rfl, rfl⟩) (by assumption) ?_
          (try simp only [Act.put, pT])
          refine wpAnyH_take (i := 14) (v := undef) rfl (by kernel_rfl) (by kernel_rfl) (by kernel_rfl) (fun _ _ _ h => h) (Or.inr ⟨by kernel_rfl, rfl⟩) (by assumption) ?_
          (try simp only [Act.put, pT])
          refine wpAnyH_take (i := 15) (v := undef) rfl (by kernel_rfl) (by kernel_rfl) (by kernel_rfl) (fun _ _ _ h => h) (Or.inr ⟨by kernel_rfl, rfl⟩) (by assumption) ?_
          (try simp only [Act.put, pT])
          refine wpAnyH_take (i := 16) (v := undef) rfl (by kernel_rfl) (by kernel_rfl) (by kernel_rfl) (fun _ _ _ h => h) (Or.inr ⟨by kernel_rfl, rfl⟩) (by assumption) ?_
          (try simp only [Act.put, pT])
          refine wpAnyH_take (i := 17) (v := undef) rfl (by kernel_rfl) (by kernel_rfl) (by kernel_rfl) (fun _ _ _ h => h) (Or.inr ⟨by kernel_rfl, rfl⟩) (by assumption) ?_
          (try simp only [Act.put, pT])
          refine wpAnyH_take (i := 20) (v := undef) rfl (by kernel_rfl) (by kernel_rfl) (by kernel_rfl) (fun _ _ _ h => h) (Or.inr ⟨by kernel_rfl, rfl⟩) (by assumption) ?_
          (try simp only [Act.put, pT])
          refine wpAnyH_take (i := 22) (v := undef) rfl (by kernel_rfl) (by kernel_rfl) (by kernel_rfl) (fun _ _ _ h => h) (Or.inr ⟨by kernel_rfl, rfl⟩) (by assumption) ?_
          (try simp only [Act.put, pT])
          refine wpAnyH_take (i := 23) (v := undef) rfl (by kernel_rfl) (by kernel_rfl) (by kernel_rfl) (fun _ _ _ h => h) (Or.inr ⟨by kernel_rfl, rfl⟩) (by assumption) ?_
          (try simp only [Act.put, pT])
          refine wpAnyH_take (i := 18) (v := undef) rfl (by kernel_rfl) (by kernel_rfl) (by kernel_rfl) (fun _ _ _ h => h) (Or.inr ⟨by kernel_rfl, rfl⟩) (by assumption) ?_
          (try simp only [Act.put, pT])
          refine wpAnyH_take (i := 19) (v := undef) rfl (by kernel_rfl) (by kernel_rfl) (by kernel_rfl) (fun _ _ _ h => h) (Or.inr ⟨by kernel_rfl, rfl⟩) (by assumption) ?_
          (try simp only [Act.put, pT])
          refine wpAnyH_take (i := 21) (v := undef) rfl (by kernel_rfl) (by kernel_rfl) (by kernel_rfl) (fun _ _ _ h => h) (Or.inr ⟨by kernel_rfl, rfl⟩) (by assumption) ?_
          (try simp only [Act.put, pT])
          refine wpAnyH_take (i := 24) (v := undef) rfl (by kernel_rfl) (by kernel_rfl) (by kernel_rfl) (fun _ _ _ h => h) (Or.inr ⟨by kernel_rfl, rfl⟩) (by assumption) ?_
          (try simp only [Act.put, pT])
          refine wpAnyH_take (i := 25) (v := undef) rfl (by kernel_rfl) (by kernel_rfl) (by kernel_rfl) (fun _ _ _ h => h) (Or.inr ⟨by kernel_rfl, rfl⟩) (by assumption) ?_
          (try simp only [Act.put, pT])
          refine tH 26 ?_
          (try simp only [Act.put, pT])
          refine tH 27 ?_
          (try simp only [Act.put, pT])
          refine wpAnyH_take (i := 28) (v := undef) rfl (by kernel_rfl) (by kernel_rfl) (by kernel_rfl) (fun _ _ _ h => h) (Or.inr ⟨by kernel_rfl, rfl⟩) (by assumption) ?_
          (try simp only [Act.put, pT])
          refine wpAnyH_take (i := 29) (v := undef) rfl (by kernel_rfl) (by kernel_rfl) (by kernel_rfl) (fun _ _ _ h => h) (Or.inr ⟨by kernel_rfl, rfl⟩) (by assumption) ?_
          (try simp only [Act.put, pT])
          refine wpAnyH_take (i := 30) (v := undef) rfl (by kernel_rfl) (by kernel_rfl) (by kernel_rfl) (fun _ _ _ h => h) (Or.inr ⟨by kernel_rfl, rfl⟩) (by assumption) ?_
          (try simp only [Act.put, pT])
          refine wpAnyH_take (i := 31) (v := undef) rfl (by kernel_rfl) (by kernel_rfl) (by kernel_rfl) (fun _ _ _ h => h) (Or.inr ⟨by kernel_rfl, rfl⟩) (by assumption) ?_
          (try simp only [Act.put, pT])
          refine wpAnyH_take (i := 32) (v := undef) rfl (by kernel_rfl) (by kernel_rfl) (by kernel_rfl) (fun _ _ _ h => h) (Or.inr ⟨by kernel_rfl, rfl⟩) (by assumption) ?_
          (try simp only [Act.put, pT])
          refine wpAnyH_take (i := 33) (v := undef) rfl (by kernel_rfl) (by kernel_rfl) (by kernel_rfl) (fun _ _ _ h => h) (Or.inr ⟨by kernel_rfl, rfl⟩) (by assumption) ?_
          (try simp only [Act.put, pT])
          refine tH 34 ?_
          (try simp only [Act.put, pT])
          refine wpAnyH_done (by kernel_rfl) ?_ _
          have hmx : Mod (fun k => k = db ∨ k = bl ∨ k = bm) w wa := HMR.out.trans hma (fun _ _ h => h)
          have HMX := Lib.hid hmx
          have HDX := Lib.hid hda
          have HCX : Hid (∀ j, C' j → C j ∨ w.heap.size ≤ j) := Lib.hid (HCR.out)
          have HLD : Hid (d.lays base b k = (d1, false)) := Lib.hid (by rw [HL.out]; unfold DS.heads; rw [if_pos HC1.out, HD1.out])
          have hbj := (HMX.out.block jb hjw hj3).trans HB0.out
          have y2 := cell_of hbj 2
          have yz := free_of hbj 2
          simp only [List.getElem?_toArray, List.getElem?_cons_zero, List.getElem?_cons_succ] at y2
          clear hbj hmx
          go_wp2_with fail
          exact HDOWN.out C' d1 wa HLD.out HDX.out HCX.out HMX.out
end Go.Proofs.YtjilbnpehgigjaaGreat
