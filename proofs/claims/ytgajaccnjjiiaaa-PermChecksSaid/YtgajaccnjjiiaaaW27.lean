/- Contracts in one word each: Rank, FromCode, Unrank, whatever they are given. -/
import Derived.Test.YtgajaccnjjiiaaaW26
namespace Go.Proofs.Ytgajaccnjjiiaaa
open Go.RowKit

def rkErr (p : List Int) : Int := if 20 < p.length then 2 else 0
def rkM (p : List Int) : Int := if 20 < p.length then 0 else hornTo p.length (codeM p) p.length
theorem Rank_all (v : Value) (p : List Int) (w : World) (hv : Ints w v p) (hch : checkM p = 0) :
    Calls Try.prog 33 #[v] w fun e w' => e = .returned (.tuple #[.int .i64 (rkM p), .int .i64 (rkErr p)]) ∧ Below w.heap.size w w' := by
  by_cases h : 20 < p.length
  · rw [rkM, rkErr, if_pos h, if_pos h]
    exact Rank_long v p w hv hch h
  · rw [rkM, rkErr, if_neg h, if_neg h]
    exact Rank_any v p w hv hch (by omega)

def fcErr (c : List Int) : Int := if c.length < 1 ∨ 60 < c.length then 20 else wantTo c c.length
theorem FromCode_all (v : Value) (c : List Int) (w : World) (hv : Ints w v c) :
    Calls Try.prog 39 #[v] w fun e w' => ∃ q, e = .returned (.tuple #[q, .int .i64 (fcErr c)]) ∧
      ((fcErr c = 0 ∧ 1 ≤ c.length ∧ c.length ≤ 60 ∧ Good c ∧ Ints w' q (fcM c)) ∨ (fcErr c ≠ 0 ∧ q = .slice none 0 0)) ∧ Below w.heap.size w w' := by
  by_cases h : c.length < 1 ∨ 60 < c.length
  · rw [fcErr, if_pos h]
    refine (FromCode_len v c w hv h).mono ?_
    rintro e w' ⟨rfl, hb⟩
    exact ⟨_, rfl, .inr ⟨by decide, rfl⟩, hb⟩
  · rw [fcErr, if_neg h]
    refine (FromCode_any v c w hv (by omega) (by omega)).mono ?_
    rintro e w' ⟨⟨hg, u, rfl, hu⟩ | ⟨hg, rfl⟩, hb⟩
    · rcases wantTo_all c with ⟨h1, _⟩ | ⟨_, h2⟩
      · rw [h1]
        exact ⟨_, rfl, .inl ⟨rfl, by omega, by omega, hg, hu.ints⟩, hb⟩
      · exact absurd hg h2
    · rcases wantTo_all c with ⟨_, h2⟩ | ⟨h1, _⟩
      · exact absurd h2 hg
      · rw [h1]
        exact ⟨_, rfl, .inr ⟨by decide, rfl⟩, hb⟩

def unBad (n r : Int) : Prop := n < 1 ∨ 20 < n ∨ r < 0 ∨ (1 ≤ n ∧ n ≤ 20 ∧ ((fct n.toNat : Nat) : Int) ≤ r)
theorem Unrank_all (n r : Int) (w : World) :
    Calls Try.prog 41 #[.int .i64 n, .int .i64 r] w fun e w' => ∃ (s : Value) (j : Int), e = .returned (.tuple #[s, .int .i64 j]) ∧
      ((∃ nN rN : Nat, n = nN ∧ r = rN ∧ 1 ≤ nN ∧ nN ≤ 20 ∧ rN < fct nN ∧ j = 0 ∧ Ints w' s (fcM (digM rN nN))) ∨ (unBad n r ∧ j = 1 ∧ s = .slice none 0 0)) ∧ Below w.heap.size w w' := by
  by_cases h : unBad n r
  · refine (Unrank_bad n r w h).mono ?_
    rintro e w' ⟨rfl, hb⟩
    exact ⟨_, _, rfl, .inr ⟨h, rfl, rfl⟩, hb⟩
  · unfold unBad at h
    obtain ⟨nN, rfl⟩ := Int.eq_ofNat_of_zero_le (by omega : 0 ≤ n)
    obtain ⟨rN, rfl⟩ := Int.eq_ofNat_of_zero_le (by omega : 0 ≤ r)
    have h1 : rN < fct nN := by
      refine Nat.lt_of_not_le fun hc => h (.inr (.inr (.inr ⟨by omega, by omega, ?_⟩)))
      simpa using hc
    refine (Unrank_any nN rN w (by omega) (by omega) h1).mono ?_
    rintro e w' ⟨u, rfl, hu, hb⟩
    exact ⟨_, _, rfl, .inl ⟨nN, rN, rfl, rfl, by omega, by omega, h1, rfl, hu⟩, hb⟩
end Go.Proofs.Ytgajaccnjjiiaaa
