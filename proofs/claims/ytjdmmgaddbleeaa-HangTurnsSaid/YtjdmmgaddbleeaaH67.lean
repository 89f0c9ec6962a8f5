/- Turned: the program's walk. -/
import Derived.Test.YtjdmmgaddbleeaaH66
import Derived.Test.YtjdmmgaddbleeaaH64
namespace Go.Proofs.Ytjdmmgaddbleeaa
open Go.RowKit

set_option maxRecDepth 100000 in
set_option maxHeartbeats 2000000 in
theorem Turned_bad (a b : ByteArray) (w : World) (ha : a.size ≤ 9223372036854775807) (hb : b.size ≤ 9223372036854775807) (he : errTwo a b ≠ 0) :
    Calls Try.prog 35 #[.string a, .string b] w fun e w' => e = .returned (.tuple #[.string ⟨#[]⟩, .bool false, .int .i64 (errTwo a b)]) ∧ Below w.heap.size w w' := by
  have hck := fun W => checkAll_any a b W ha hb
  have t1 : (errTwo a b != 0) = true := by simpa using he
  generalize errTwo a b = E at *
  have HCK := Lib.hid hck
  clear hck he
  go_enter Try.func35, Try.ntmps35
  go_wp2_with (go_at_call 64; refine (HCK.out _).mono ?_; rintro e w0 ⟨rfl, hb0⟩)
  go_ret3
  exact ⟨rfl, hb0⟩

theorem keep62 {g h : Nat} {A C D : Value} {w2 W W' : World} (h0 : W.cell? ⟨g, 0, none⟩ = some A) (h1 : W.cell? ⟨g, 1, none⟩ = some C) (hD : W.cell? ⟨h, 0, none⟩ = some D) (h2 : Below w2.heap.size w2 W) (hg : g < w2.heap.size) (hh : h < w2.heap.size) (hb : Below W.heap.size W W') :
    W'.cell? ⟨g, 0, none⟩ = some A ∧ W'.cell? ⟨g, 1, none⟩ = some C ∧ W'.cell? ⟨h, 0, none⟩ = some D ∧ Below w2.heap.size w2 W' :=
  ⟨(hb.cell (p := ⟨g, 0, none⟩) (Nat.lt_of_lt_of_le hg h2.size)).trans h0, (hb.cell (p := ⟨g, 1, none⟩) (Nat.lt_of_lt_of_le hg h2.size)).trans h1, (hb.cell (p := ⟨h, 0, none⟩) (Nat.lt_of_lt_of_le hh h2.size)).trans hD, h2.trans (hb.mono h2.size)⟩
theorem cell_pos {w : World} {v : Value} (h : w.cell? ⟨0, 0, none⟩ = some v) : 0 < w.heap.size := by
  rcases Nat.eq_zero_or_pos w.heap.size with h0 | h0
  · have : w.heap[0]? = none := by rw [Array.getElem?_eq_none_iff]; omega
    simp [World.cell?, this] at h
  · exact h0

theorem cell67 {w w0 w1 w2 w3 w4 : World} {v : Value} {o1 o2 : Obj} (h : w.cell? ⟨0, 0, none⟩ = some v) (h0 : 0 < w.heap.size) (b0 : Below w.heap.size w w0) (b1 : Below w0.heap.size w0 w1) (b2 : Below w1.heap.size w1 w2) (b3 : Below w2.heap.size w2 w3) (b4 : Below w3.heap.size w3 w4) :
    ((w4.alloc o1).alloc o2).cell? ⟨0, 0, none⟩ = some v := by
  have g1 := b0.trans (b1.mono b0.size)
  have g2 := g1.trans (b2.mono g1.size)
  have g3 := g2.trans (b3.mono g2.size)
  have g4 := g3.trans (b4.mono g3.size)
  have g5 := (g4.alloc g4.size o1).alloc (by simp; have := g4.size; omega) o2
  exact (g5.cell (p := ⟨0, 0, none⟩) h0).trans h

set_option maxRecDepth 100000 in
set_option maxHeartbeats 4000000 in
theorem Turned_any (a b : ByteArray) (w : World) (ha : wordErr a = 0) (hb : wordErr b = 0) (hla : a.size ≤ 500) (hlb : b.size ≤ 500) (M : Int) (hM : w.cell? ⟨0, 0, none⟩ = some (.int .i64 M)) :
    Calls Try.prog 35 #[.string a, .string b] w fun e w' => e = .returned (.tuple #[.string (strB (turnedR (redW (bts a)) (redW (bts b))).1), .bool (turnedR (redW (bts a)) (redW (bts b))).2, .int .i64 0]) ∧ Below w.heap.size w w' := by
  obtain ⟨hwa, _⟩ := word_size ha
  obtain ⟨hwb, _⟩ := word_size hb
  have hck := fun W => checkAll_any a b W (by omega) (by omega)
  have he : errTwo a b = 0 := by unfold errTwo; rw [if_pos ha, hb]
  rw [he] at hck
  have hpa := fun W => product_one a W hwa (by omega)
  have hpb := fun W => product_one b W hwb (by omega)
  have hwu := redW_word hwa
  have hwv := redW_word hwb
  have hlu := redW_len (bts a)
  have hlv := redW_len (bts b)
  rw [bts_len] at hlu hlv
  generalize redW (bts a) = u at *
  generalize redW (bts b) = v at *
  have hua := fun W => unwound_any (strB u) W (by rw [size_str]; omega)
  have hub := fun W => unwound_any (strB v) W (by rw [size_str]; omega)
  have hba : bts ((strB u).extract 0 (coreN u)) = byL u := bts_by (strB u)
  have hbb : bts ((strB v).extract 0 (coreN v)) = byL v := bts_by (strB v)
  have hma : bts ((strB u).extract (coreN u) ((strB u).size - coreN u)) = midL u := bts_mid (strB u)
  have hmb : bts ((strB v).extract (coreN v) ((strB v).size - coreN v)) = midL v := bts_mid (strB v)
  simp only [bts_str] at hua hub
  have hwbu : isWord (byL u) = true := by_word hwu
  have hwbv : isWord (byL v) = true := by_word hwv
  have hwmu : isWord (midL u) = true := mid_word hwu
  generalize hBU : (strB u).extract 0 (coreN u) = BU at *
  generalize hBV : (strB v).extract 0 (coreN v) = BV at *
  generalize hCU : (strB u).extract (coreN u) ((strB u).size - coreN u) = CU at *
  generalize hCV : (strB v).extract (coreN v) ((strB v).size - coreN v) = CV at *
  have s1 : CU.size ≤ 500 := by rw [← hCU, ByteArray.size_extract, size_str]; omega
  have s2 : CV.size ≤ 500 := by rw [← hCV, ByteArray.size_extract, size_str]; omega
  have s3 : BU.size ≤ 500 := by rw [← hBU, ByteArray.size_extract, size_str]; omega
  have s4 : BV.size ≤ 500 := by rw [← hBV, ByteArray.size_extract, size_str]; omega
  have hR : turnedR u v = (if bts BU = bts BV ∧ bts CU = bts CV then ([], true) else if (bts CU).length ≠ (bts CV).length then ([], false) else if Lib.index (bts CU ++ bts CU) (bts CV) < 0 then ([], false)
      else (redW (bts BV ++ invL ((bts CU).take (Lib.index (bts CU ++ bts CU) (bts CV)).toNat) ++ invL (bts BU)), true)) := by
    unfold turnedR
    rw [hba, hbb, hma, hmb]
  rw [← hba] at hwbu
  rw [← hbb] at hwbv
  rw [← hma] at hwmu
  generalize turnedR u v = T at *
  have HCK := Lib.hid hck
  have HPA := Lib.hid hpa
  have HPB := Lib.hid hpb
  have HUA := Lib.hid hua
  have HUB := Lib.hid hub
  have HM := Lib.hid hM
  have h0 := cell_pos hM
  have HH0 := Lib.hid h0
  obtain ⟨I, hI⟩ : ∃ I, Lib.index (CU ++ CU).data.toList CV.data.toList = I := ⟨_, rfl⟩
  have hI2 : Lib.index (bts CU ++ bts CU) (bts CV) = I := by rw [← bts_add]; exact hI
  rw [hI2] at hR
  have hidx := fun (W : World) (h : W.cell? ⟨0, 0, none⟩ = some (.int .i64 M)) => Try.strings_Index (CU ++ CU) CV M W (by rw [ByteArray.size_append]; omega) h
  rw [hI] at hidx
  have HIX := Lib.hid hidx
  have HI2 := Lib.hid hI2
  have n1 : ¬ 9223372036854775807 < CU.size + CU.size := by omega
  clear hI hI2 h0 hidx
  clear hck hpa hpb hua hub he hwa hwb ha hb hM hBU hBV hCU hCV hba hbb hma hmb hwu hwv hlu hlv
  by_cases h1 : bts BU = bts BV ∧ bts CU = bts CV
  · rw [if_pos h1] at hR
    obtain rfl : BU = BV := str_eq h1.1
    obtain rfl : CU = CV := str_eq h1.2
    subst hR
    clear h1
    go_enter Try.func35, Try.ntmps35
    go_wp2_with (first
        | (go_at_call 64; refine (HCK.out _).mono ?_; rintro e w0 ⟨rfl, hb0⟩)
        | (go_at_call 58; ((with_reducible refine (HPA.out _).mono ?_); rintro e w1 ⟨rfl, hb1⟩))
        | (go_at_call 58; ((with_reducible refine (HPB.out _).mono ?_); rintro e w3 ⟨rfl, hb3⟩))
        | (go_at_call 66; ((with_reducible refine (HUA.out _).mono ?_); rintro e w2 ⟨rfl, hb2⟩))
        | (go_at_call 66; ((with_reducible refine (HUB.out _).mono ?_); rintro e w4 ⟨rfl, hb4⟩)))
    go_ret3
    have h1 := hb0.trans (hb1.mono hb0.size)
    have h2 := h1.trans (hb2.mono h1.size)
    have h3 := h2.trans (hb3.mono h2.size)
    have h4 := h3.trans (hb4.mono h3.size)
    exact ⟨rfl, (h4.alloc h4.size _).alloc (by simp; have := h4.size; omega) _⟩
  rw [if_neg h1] at hR
  have hcase : (BU.toList = BV.toList ∧ ¬ CU.toList = CV.toList) ∨ ¬ BU.toList = BV.toList := by
    rw [ByteArray.toList_eq, ByteArray.toList_eq, ByteArray.toList_eq, ByteArray.toList_eq]
    by_cases hB : bts BU = bts BV
    · exact .inl ⟨hB, fun h => h1 ⟨hB, h⟩⟩
    · exact .inr hB
  clear h1
  rcases hcase with ⟨hB, hC⟩ | hB
  · by_cases hl : CU.size = CV.size
    · rw [if_neg (by rw [bts_len, bts_len, hl]; simp)] at hR
      by_cases hi : I < 0
      · rw [if_pos hi] at hR
        subst hR
        go_enter Try.func35, Try.ntmps35
        go_wp2_with (first
          | (go_at_call 64; refine (HCK.out _).mono ?_; rintro e w0 ⟨rfl, hb0⟩)
          | (go_at_call 58; ((with_reducible refine (HPA.out _).mono ?_); rintro e w1 ⟨rfl, hb1⟩))
          | (go_at_call 58; ((with_reducible refine (HPB.out _).mono ?_); rintro e w3 ⟨rfl, hb3⟩))
          | (go_at_call 66; ((with_reducible refine (HUA.out _).mono ?_); rintro e w2 ⟨rfl, hb2⟩))
          | (go_at_call 66; ((with_reducible refine (HUB.out _).mono ?_); rintro e w4 ⟨rfl, hb4⟩))
          | (go_at_call 67; refine (HIX.out _ ?_).mono ?_; (exact cell67 HM.out HH0.out hb0 hb1 hb2 hb3 hb4); rintro e w5 ⟨rfl, rfl⟩))
        go_ret3
        have g1 := hb0.trans (hb1.mono hb0.size)
        have g2 := g1.trans (hb2.mono g1.size)
        have g3 := g2.trans (hb3.mono g2.size)
        have g4 := g3.trans (hb4.mono g3.size)
        have g5 := (g4.alloc g4.size (.cells #[.string BU, .string CU] 99)).alloc (by simp; have := g4.size; omega) (.cells #[.string BV, .string CV] 99)
        exact ⟨rfl, g5⟩
      · rw [if_neg hi] at hR
        obtain ⟨i, rfl⟩ : ∃ i : Nat, I = i := ⟨I.toNat, by omega⟩
        rw [show ((i : Int)).toNat = i by omega] at hR
        have hroom := Lib.index_room (bts CU ++ bts CU) (bts CV) (by rw [HI2.out]; omega)
        rw [HI2.out, List.length_append, bts_len, bts_len] at hroom
        have hi1 : i ≤ CU.size := by omega
        have hi2 : (i : Int) ≤ CU.size := by omega
        have hi0 : (0 : Int) ≤ i := by omega
        have hi3 : (i : Int) ≤ CV.size := by omega
        have hi4 : i ≤ CV.size := by omega
        have hin : ¬ ((i : Int) < 0) := hi
        have hit : (i : Int).toNat = i := by omega
        have hta := fun W => turned_any (CU.extract 0 i) W (by rw [ByteArray.size_extract]; omega)
        have htb := fun W => turned_any BU W (by omega)
        have hex : bts (CU.extract 0 i) = (bts CU).take i := by simp [bts, ByteArray.data_extract]
        rw [hex] at hta
        have hpr := fun W => product_three2 BV (strB (invL ((bts CU).take i))) (strB (invL (bts BU))) W hwbv (by rw [bts_str]; exact invL_word (isWord_sub hwmu fun _ hc => List.mem_of_mem_take hc)) (by rw [bts_str]; exact invL_word hwbu) (by simp only [bts_str, invL_len, bts_len, List.length_take]; omega)
        simp only [bts_str] at hpr
        have hR1 : T = (redW (bts BV ++ invL ((bts CU).take i) ++ invL (bts BU)), true) := hR
        have HR := Lib.hid hR1
        generalize redW (bts BV ++ invL ((bts CU).take i) ++ invL (bts BU)) = X at *
        generalize strB (invL ((bts CU).take i)) = TC at *
        generalize strB (invL (bts BU)) = TB at *
        have HTA := Lib.hid hta
        have HTB := Lib.hid htb
        have HPR := Lib.hid hpr
        clear hta htb hpr hex hR hR1 hroom hi HI2
        go_enter Try.func35, Try.ntmps35
        go_wp2_with (first
          | (go_at_call 64; refine (HCK.out _).mono ?_; rintro e w0 ⟨rfl, hb0⟩)
          | (go_at_call 58; ((with_reducible refine (HPA.out _).mono ?_); rintro e w1 ⟨rfl, hb1⟩))
          | (go_at_call 58; ((with_reducible refine (HPB.out _).mono ?_); rintro e w3 ⟨rfl, hb3⟩))
          | (go_at_call 66; ((with_reducible refine (HUA.out _).mono ?_); rintro e w2 ⟨rfl, hb2⟩))
          | (go_at_call 66; ((with_reducible refine (HUB.out _).mono ?_); rintro e w4 ⟨rfl, hb4⟩))
          | (go_at_call 67; refine (HIX.out _ ?_).mono ?_; (exact cell67 HM.out HH0.out hb0 hb1 hb2 hb3 hb4); rintro e w5 ⟨rfl, rfl⟩))
        have g1 := hb0.trans (hb1.mono hb0.size)
        have g2 := g1.trans (hb2.mono g1.size)
        have g3 := g2.trans (hb3.mono g2.size)
        have g4 := g3.trans (hb4.mono g3.size)
        have g5 := (g4.alloc g4.size (.cells #[.string BU, .string CU] 99)).alloc (by simp; have := g4.size; omega) (.cells #[.string BV, .string CV] 99)
        have c8 := Blk.alloc (Blk.new w4 99 [.string BU, .string CU]) (.cells #[.string BV, .string CV] 99)
        have c9 := Blk.new (w4.alloc (.cells #[.string BU, .string CU] 99)) 99 [.string BV, .string CV]
        rw [show (w4.alloc (.cells #[.string BU, .string CU] 99)).heap.size = w4.heap.size + 1 by simp] at c9
        have HB5 := Lib.hid g5
        clear hb0 hb1 hb2 hb3 hb4 g1 g2 g3 g4 g5
        generalize hw5 : (w4.alloc (.cells #[.string BU, .string CU] 99)).alloc (.cells #[.string BV, .string CV] 99) = w6 at *
        clear hw5
        have hA := c8.cell (j := 0) rfl
        have hC := c8.cell (j := 1) rfl
        have hD := c9.cell (j := 0) rfl
        have hlg := c8.lt
        have hlh := c9.lt
        have hrefl : Below w6.heap.size w6 w6 := Below.refl _ _
        generalize hg4 : w4.heap.size = g4 at *
        clear hg4 c8 c9
        go_region_held3 (fun w' => w'.cell? ⟨g4, 0, none⟩ = some (.string BU) ∧ w'.cell? ⟨g4, 1, none⟩ = some (.string CU) ∧ w'.cell? ⟨g4 + 1, 0, none⟩ = some (.string BV) ∧ Below w6.heap.size w6 w') (first | (refine ⟨?_, ?_, ?_, ?_⟩ <;> first | assumption | (refine Below.drew ?_; assumption)) | (go_split_ands; exact keep62 (by assumption) (by assumption) (by assumption) (by assumption) hlg hlh hb') | (go_split_ands; exact keep62 (by assumption) (by assumption) (by assumption) (by assumption) hlg hlh ((Below.refl _ _).alloc (Nat.le_refl _) _))) (first
          | (go_at_call 59; ((with_reducible refine (HTA.out _).mono ?_); rintro e w' ⟨rfl, hb'⟩))
          | (go_at_call 59; ((with_reducible refine (HTB.out _).mono ?_); rintro e w' ⟨rfl, hb'⟩))
          | (go_at_call 58; ((with_reducible refine (HPR.out _).mono ?_); rintro e w' ⟨rfl, hb'⟩)))
        go_split_ands
        have hbz := Lib.hid (p := Below w6.heap.size w6 w') (by assumption)
        go_wp2_with fail
        go_ret3
        exact ⟨by rw [HR.out]; rfl, HB5.out.trans (hbz.out.mono HB5.out.size)⟩
    · rw [if_pos (by rw [bts_len, bts_len]; exact hl)] at hR
      subst hR
      have hli : ((CU.size : Int) != (CV.size : Int)) = true := by simp; omega
      go_enter Try.func35, Try.ntmps35
      go_wp2_with (first
        | (go_at_call 64; refine (HCK.out _).mono ?_; rintro e w0 ⟨rfl, hb0⟩)
        | (go_at_call 58; ((with_reducible refine (HPA.out _).mono ?_); rintro e w1 ⟨rfl, hb1⟩))
        | (go_at_call 58; ((with_reducible refine (HPB.out _).mono ?_); rintro e w3 ⟨rfl, hb3⟩))
        | (go_at_call 66; ((with_reducible refine (HUA.out _).mono ?_); rintro e w2 ⟨rfl, hb2⟩))
        | (go_at_call 66; ((with_reducible refine (HUB.out _).mono ?_); rintro e w4 ⟨rfl, hb4⟩)))
      go_ret3
      have g1 := hb0.trans (hb1.mono hb0.size)
      have g2 := g1.trans (hb2.mono g1.size)
      have g3 := g2.trans (hb3.mono g2.size)
      have g4 := g3.trans (hb4.mono g3.size)
      have g5 := (g4.alloc g4.size (.cells #[.string BU, .string CU] 99)).alloc (by simp; have := g4.size; omega) (.cells #[.string BV, .string CV] 99)
      exact ⟨rfl, g5⟩
  · by_cases hl : CU.size = CV.size
    · rw [if_neg (by rw [bts_len, bts_len, hl]; simp)] at hR
      by_cases hi : I < 0
      · rw [if_pos hi] at hR
        subst hR
        go_enter Try.func35, Try.ntmps35
        go_wp2_with (first
          | (go_at_call 64; refine (HCK.out _).mono ?_; rintro e w0 ⟨rfl, hb0⟩)
          | (go_at_call 58; ((with_reducible refine (HPA.out _).mono ?_); rintro e w1 ⟨rfl, hb1⟩))
          | (go_at_call 58; ((with_reducible refine (HPB.out _).mono ?_); rintro e w3 ⟨rfl, hb3⟩))
          | (go_at_call 66; ((with_reducible refine (HUA.out _).mono ?_); rintro e w2 ⟨rfl, hb2⟩))
          | (go_at_call 66; ((with_reducible refine (HUB.out _).mono ?_); rintro e w4 ⟨rfl, hb4⟩))
          | (go_at_call 67; refine (HIX.out _ ?_).mono ?_; (exact cell67 HM.out HH0.out hb0 hb1 hb2 hb3 hb4); rintro e w5 ⟨rfl, rfl⟩))
        go_ret3
        have g1 := hb0.trans (hb1.mono hb0.size)
        have g2 := g1.trans (hb2.mono g1.size)
        have g3 := g2.trans (hb3.mono g2.size)
        have g4 := g3.trans (hb4.mono g3.size)
        have g5 := (g4.alloc g4.size (.cells #[.string BU, .string CU] 99)).alloc (by simp; have := g4.size; omega) (.cells #[.string BV, .string CV] 99)
        exact ⟨rfl, g5⟩
      · rw [if_neg hi] at hR
        obtain ⟨i, rfl⟩ : ∃ i : Nat, I = i := ⟨I.toNat, by omega⟩
        rw [show ((i : Int)).toNat = i by omega] at hR
        have hroom := Lib.index_room (bts CU ++ bts CU) (bts CV) (by rw [HI2.out]; omega)
        rw [HI2.out, List.length_append, bts_len, bts_len] at hroom
        have hi1 : i ≤ CU.size := by omega
        have hi2 : (i : Int) ≤ CU.size := by omega
        have hi0 : (0 : Int) ≤ i := by omega
        have hi3 : (i : Int) ≤ CV.size := by omega
        have hi4 : i ≤ CV.size := by omega
        have hin : ¬ ((i : Int) < 0) := hi
        have hit : (i : Int).toNat = i := by omega
        have hta := fun W => turned_any (CU.extract 0 i) W (by rw [ByteArray.size_extract]; omega)
        have htb := fun W => turned_any BU W (by omega)
        have hex : bts (CU.extract 0 i) = (bts CU).take i := by simp [bts, ByteArray.data_extract]
        rw [hex] at hta
        have hpr := fun W => product_three2 BV (strB (invL ((bts CU).take i))) (strB (invL (bts BU))) W hwbv (by rw [bts_str]; exact invL_word (isWord_sub hwmu fun _ hc => List.mem_of_mem_take hc)) (by rw [bts_str]; exact invL_word hwbu) (by simp only [bts_str, invL_len, bts_len, List.length_take]; omega)
        simp only [bts_str] at hpr
        have hR1 : T = (redW (bts BV ++ invL ((bts CU).take i) ++ invL (bts BU)), true) := hR
        have HR := Lib.hid hR1
        generalize redW (bts BV ++ invL ((bts CU).take i) ++ invL (bts BU)) = X at *
        generalize strB (invL ((bts CU).take i)) = TC at *
        generalize strB (invL (bts BU)) = TB at *
        have HTA := Lib.hid hta
        have HTB := Lib.hid htb
        have HPR := Lib.hid hpr
        clear hta htb hpr hex hR hR1 hroom hi HI2
        go_enter Try.func35, Try.ntmps35
        go_wp2_with (first
          | (go_at_call 64; refine (HCK.out _).mono ?_; rintro e w0 ⟨rfl, hb0⟩)
          | (go_at_call 58; ((with_reducible refine (HPA.out _).mono ?_); rintro e w1 ⟨rfl, hb1⟩))
          | (go_at_call 58; ((with_reducible refine (HPB.out _).mono ?_); rintro e w3 ⟨rfl, hb3⟩))
          | (go_at_call 66; ((with_reducible refine (HUA.out _).mono ?_); rintro e w2 ⟨rfl, hb2⟩))
          | (go_at_call 66; ((with_reducible refine (HUB.out _).mono ?_); rintro e w4 ⟨rfl, hb4⟩))
          | (go_at_call 67; refine (HIX.out _ ?_).mono ?_; (exact cell67 HM.out HH0.out hb0 hb1 hb2 hb3 hb4); rintro e w5 ⟨rfl, rfl⟩))
        have g1 := hb0.trans (hb1.mono hb0.size)
        have g2 := g1.trans (hb2.mono g1.size)
        have g3 := g2.trans (hb3.mono g2.size)
        have g4 := g3.trans (hb4.mono g3.size)
        have g5 := (g4.alloc g4.size (.cells #[.string BU, .string CU] 99)).alloc (by simp; have := g4.size; omega) (.cells #[.string BV, .string CV] 99)
        have c8 := Blk.alloc (Blk.new w4 99 [.string BU, .string CU]) (.cells #[.string BV, .string CV] 99)
        have c9 := Blk.new (w4.alloc (.cells #[.string BU, .string CU] 99)) 99 [.string BV, .string CV]
        rw [show (w4.alloc (.cells #[.string BU, .string CU] 99)).heap.size = w4.heap.size + 1 by simp] at c9
        have HB5 := Lib.hid g5
        clear hb0 hb1 hb2 hb3 hb4 g1 g2 g3 g4 g5
        generalize hw5 : (w4.alloc (.cells #[.string BU, .string CU] 99)).alloc (.cells #[.string BV, .string CV] 99) = w6 at *
        clear hw5
        have hA := c8.cell (j := 0) rfl
        have hC := c8.cell (j := 1) rfl
        have hD := c9.cell (j := 0) rfl
        have hlg := c8.lt
        have hlh := c9.lt
        have hrefl : Below w6.heap.size w6 w6 := Below.refl _ _
        generalize hg4 : w4.heap.size = g4 at *
        clear hg4 c8 c9
        go_region_held3 (fun w' => w'.cell? ⟨g4, 0, none⟩ = some (.string BU) ∧ w'.cell? ⟨g4, 1, none⟩ = some (.string CU) ∧ w'.cell? ⟨g4 + 1, 0, none⟩ = some (.string BV) ∧ Below w6.heap.size w6 w') (first | (refine ⟨?_, ?_, ?_, ?_⟩ <;> first | assumption | (refine Below.drew ?_; assumption)) | (go_split_ands; exact keep62 (by assumption) (by assumption) (by assumption) (by assumption) hlg hlh hb') | (go_split_ands; exact keep62 (by assumption) (by assumption) (by assumption) (by assumption) hlg hlh ((Below.refl _ _).alloc (Nat.le_refl _) _))) (first
          | (go_at_call 59; ((with_reducible refine (HTA.out _).mono ?_); rintro e w' ⟨rfl, hb'⟩))
          | (go_at_call 59; ((with_reducible refine (HTB.out _).mono ?_); rintro e w' ⟨rfl, hb'⟩))
          | (go_at_call 58; ((with_reducible refine (HPR.out _).mono ?_); rintro e w' ⟨rfl, hb'⟩)))
        go_split_ands
        have hbz := Lib.hid (p := Below w6.heap.size w6 w') (by assumption)
        go_wp2_with fail
        go_ret3
        exact ⟨by rw [HR.out]; rfl, HB5.out.trans (hbz.out.mono HB5.out.size)⟩
    · rw [if_pos (by rw [bts_len, bts_len]; exact hl)] at hR
      subst hR
      have hli : ((CU.size : Int) != (CV.size : Int)) = true := by simp; omega
      go_enter Try.func35, Try.ntmps35
      go_wp2_with (first
        | (go_at_call 64; refine (HCK.out _).mono ?_; rintro e w0 ⟨rfl, hb0⟩)
        | (go_at_call 58; ((with_reducible refine (HPA.out _).mono ?_); rintro e w1 ⟨rfl, hb1⟩))
        | (go_at_call 58; ((with_reducible refine (HPB.out _).mono ?_); rintro e w3 ⟨rfl, hb3⟩))
        | (go_at_call 66; ((with_reducible refine (HUA.out _).mono ?_); rintro e w2 ⟨rfl, hb2⟩))
        | (go_at_call 66; ((with_reducible refine (HUB.out _).mono ?_); rintro e w4 ⟨rfl, hb4⟩)))
      go_ret3
      have g1 := hb0.trans (hb1.mono hb0.size)
      have g2 := g1.trans (hb2.mono g1.size)
      have g3 := g2.trans (hb3.mono g2.size)
      have g4 := g3.trans (hb4.mono g3.size)
      have g5 := (g4.alloc g4.size (.cells #[.string BU, .string CU] 99)).alloc (by simp; have := g4.size; omega) (.cells #[.string BV, .string CV] 99)
      exact ⟨rfl, g5⟩
end Go.Proofs.Ytjdmmgaddbleeaa
