/- The least sets of a list: reduced: the walk. -/
import Derived.Test.YtjdmmgaddbleeaaMF
import Derived.Test.YtjdmmgaddbleeaaMG
import Derived.Test.YtjdmmgaddbleeaaMH
namespace Go.Proofs.Ytjdmmgaddbleeaa
open Go.RowKit Go.Shelf Go.Lib

theorem neq_run (f g : NS) (w : World) : (binOp BinOp.neq 67 (nailsV f) (nailsV g)).run Try.prog w = .ok (.bool (!decide (boolsN f = boolsN g))) w := by
  obtain ⟨i4, hi4⟩ := Option.isSome_iff_exists.1 Try.info4
  have heq := run_eq_bools Try.underlying67 Try.underlying4 Try.cells4 hi4 (boolsN f) (boolsN g) (by simp [boolsN]) (by simp [boolsN]) w
  show (binOp BinOp.neq 67 (.agg (marksL f).toArray) (.agg (marksL g).toArray)).run Try.prog w = _
  rw [marks_bools, marks_bools]
  have hu := Try.underlying67
  generalize hX : (bools (boolsN f)).toArray = X at *
  generalize hY : (bools (boolsN g)).toArray = Y at *
  go_simp
theorem wpList_neqN {w : World} {ops : Array Oper} {rest : List Oper} {o : Oper} {a : Act} {Q : Exit → Act → World → Prop} (hw : Region.wanted o (yielded ops a.tmps) = true) (x y : Operand) (ho : o.op = .binOp .neq 67 x y 67)
    {f g : NS} (hx : a.eval x = nailsV f) (hy : a.eval y = nailsV g) (hK : wpList Try.prog ops Q rest (a.put o.dst (.bool (!decide (boolsN f = boolsN g)))) w) : wpList Try.prog ops Q (o :: rest) a w := by
  refine wpList_step fun K hK2 => ?_
  simp only [hw, if_true]
  have h1 : (eqGuard .neq 67 x y (nailsV f) (nailsV g)).run Try.prog w = .ok () w := eql_nails.2 .neq x y f g w
  have h2 := neq_run f g w
  have e : (execOp a.eval o).run Try.prog w = .ok (.value (.bool (!decide (boolsN f = boolsN g)))) w := by
    unfold nailsV at hx hy h1 h2
    generalize (marksL f).toArray = X at *
    generalize (marksL g).toArray = Y at *
    simp only [execOp, ho, hx, hy]
    simp
    rw [h1]
    simp [h2]
  unfold Oper.wp
  rw [e]
  exact hK2 _ _ hK
theorem wpList_neqM {w : World} {ops : Array Oper} {rest : List Oper} {o : Oper} {a : Act} {Q : Exit → Act → World → Prop} {f g : NS} {N M : List Value} (hN : marksL f = N) (hM : marksL g = M) {b : Bool} (hb : (!decide (boolsN f = boolsN g)) = b)
    (hw : Region.wanted o (yielded ops a.tmps) = true) (x y : Operand) (ho : o.op = .binOp .neq 67 x y 67)
    (hx : a.eval x = .agg N.toArray) (hy : a.eval y = .agg M.toArray) (hK : wpList Try.prog ops Q rest (a.put o.dst (.bool b)) w) : wpList Try.prog ops Q (o :: rest) a w := by
  subst hN hM hb
  exact wpList_neqN hw x y ho hx hy hK
theorem wpList_loadBg {P : Program} {w : World} {ops : Array Oper} {rest : List Oper} {o : Oper} {a : Act} {Q : Exit → Act → World → Prop} {g : Nat} {e : TypeId} {vs : List Value} (h : Blk w g e vs) {ty : TypeId} {n : Nat} (hi : (P.info? ty).map (·.size) = some n) (hn : vs.length = n)
    {d : TypeDesc} (hu : P.underlying ty = some d) (hd : (match d with | .struct _ | .array _ _ => true | _ => false) = true)
    (hw : Region.wanted o (yielded ops a.tmps) = true) (x : Operand) (ho : o.op = .load ty x) (hx : a.eval x = .pointer (some ⟨g, 0, none⟩))
    (hK : wpList P ops Q rest (a.put o.dst (.agg vs.toArray)) w) : wpList P ops Q (o :: rest) a w :=
  wpList_step fun _ hK2 => by
    simp only [hw, if_true]
    exact wp_load_row ty x ho g hx e vs.toArray (0, 0) d h hu hd (by rw [hi]; simp [hn]) (hK2 _ _ hK)

/-- whether a set of a list, the i-th, contains another of the list, or an equal one ahead -/
def moreF (fs : List NS) (i : Nat) (s : NS) (k : Nat) : Bool := ((fs.take k).zipIdx).any fun x => inM x.1 s && ((!decide (boolsN x.1 = boolsN s)) || decide (x.2 < i))
theorem moreF_succ {fs : List NS} {k : Nat} {f : NS} (h : fs[k]? = some f) (i : Nat) (s : NS) : moreF fs i s (k + 1) = (moreF fs i s k || (inM f s && ((!decide (boolsN f = boolsN s)) || decide (k < i)))) := by
  unfold moreF
  obtain ⟨hk, _⟩ := List.getElem?_eq_some_iff.1 h
  rw [List.take_add_one, h]
  simp only [Option.toList_some]
  rw [List.zipIdx_append, List.any_append]
  simp [List.length_take, Nat.min_eq_left (Nat.le_of_lt hk)]
/-- the list without those -/
def keepF (fs : List NS) (k : Nat) : List NS := (((fs.take k).zipIdx).filter fun x => !moreF fs x.2 x.1 fs.length).map (·.1)
theorem keepF_succ {fs : List NS} {k : Nat} {f : NS} (h : fs[k]? = some f) : keepF fs (k + 1) = keepF fs k ++ if moreF fs k f fs.length = true then [] else [f] := by
  unfold keepF
  obtain ⟨hk, _⟩ := List.getElem?_eq_some_iff.1 h
  rw [List.take_add_one, h]
  simp only [Option.toList_some]
  rw [List.zipIdx_append, List.filter_append, List.map_append]
  congr 1
  have e : (fs.take k).length = k := by rw [List.length_take]; omega
  rw [Nat.zero_add, e]
  simp only [List.zipIdx_cons, List.zipIdx_nil, List.filter_cons, List.filter_nil]
  cases moreF fs k f fs.length <;> rfl
theorem keepF_len (fs : List NS) (k : Nat) : (keepF fs k).length ≤ k := by
  unfold keepF
  rw [List.length_map]
  have h1 := List.length_filter_le (fun x : NS × Nat => !moreF fs x.2 x.1 fs.length) ((fs.take k).zipIdx)
  rw [List.length_zipIdx, List.length_take] at h1
  omega

def RedPost (w : World) (fs : List NS) (e : Ending) (w' : World) : Prop := ∃ u fs', e = .returned u ∧ fs'.Perm (keepF fs fs.length) ∧ InOrder fs' ∧ SetsAt w' w.heap.size u fs' ∧ Below w.heap.size w w'
set_option maxRecDepth 100000 in
set_option maxHeartbeats 4000000 in
theorem reduced_any (base : Nat) (v : Value) (fs : List NS) (w : World) (hv : SetsAt w base v fs) (hl : fs.length ≤ 1000000) : Calls Try.prog 65 #[v] w (RedPost w fs) := by
  obtain ⟨n, hn⟩ : ∃ n, fs.length = n := ⟨_, rfl⟩
  obtain ⟨a, c, rfl, hc1, hc2⟩ := hv.shape hn
  rw [hn] at hl
  have HN := Lib.hid hn
  have HV := Lib.hid hv
  have HPOST := Lib.hid (show ∀ u fs' w', fs'.Perm (keepF fs fs.length) → InOrder fs' → SetsAt w' w.heap.size u fs' → Below w.heap.size w w' → RedPost w fs (.returned u) w' from fun u fs' w' h1 h2 h3 h4 => ⟨u, fs', rfl, h1, h2, h3, h4⟩)
  clear hv hn
  generalize RedPost w fs = R at *
  go_enter Try.func65, Try.ntmps65
  go_wp2_with fail
  go_loopw [3, 11] (fun uv iv wr => ∃ k : Nat, k ≤ n ∧ iv = .int .i64 k ∧ Hid (OwnS wr w.heap.size uv (keepF fs k)) ∧ Hid (Below w.heap.size w wr)) (fun _ iv _ => n - (intOf iv).toNat)
  case atStart => exact ⟨0, by omega, rfl, (show Hid (w.ownsRow w.heap.size 67 26 (.slice none 0 0) 0 []) from World.ownsRow_nil w w.heap.size 67 26), (show Hid _ from Below.refl _ _)⟩
  case round =>
    obtain ⟨k, hk, rfl, HO, HB⟩ := hrel
    obtain ⟨w2, rfl⟩ : ∃ w2, w2 = wr := ⟨_, rfl⟩
    by_cases hlt : k < n
    · obtain ⟨g, f, rfl, hf, hrg⟩ := (HV.out.keep HB.out).at_ hlt
      have hks := keepF_succ hf.out
      have hklen := keepF_len fs k
      have hm0 : moreF fs k f 0 = false := by unfold moreF; rw [List.take_zero]; rfl
      have hmS := fun j f' (h : fs[j]? = some f') => moreF_succ h k f
      obtain ⟨M, hM⟩ : ∃ M, marksL f = M := ⟨_, rfl⟩
      have hml := marks_len f
      have hm1 := marks_one f
      rw [hM] at hrg hml hm1
      have hbn := Blk.new w2 67 zeroL
      have hll : zeroL.length = M.length := by rw [hml]; rfl
      have hbs := hbn.setAll hll
      have hbel : Below w2.heap.size w2 ((w2.alloc (.cells zeroL.toArray 67)).setCells w2.heap.size 0 M) := below_setCells (Nat.le_refl _) _ _ ((Below.refl _ _).alloc (Nat.le_refl _) _)
      have hsz2 := hbel.size
      have hg5w := HB.out.size
      have HF := Lib.hid hf
      have HRG := Lib.hid hrg
      have HKS := Lib.hid hks
      have HM0 := Lib.hid hm0
      have HMS := Lib.hid hmS
      have HMM := Lib.hid hM
      have HML := Lib.hid hml
      have HM1 := Lib.hid hm1
      have HBN := Lib.hid hbn
      have HLL := Lib.hid hll
      have HBS := Lib.hid hbs
      have HBEL := Lib.hid hbel
      have hkl9 : (keepF fs k).length < 1000000000 := by omega
      have HKL9 := Lib.hid hkl9
      clear hrg hks hklen hm0 hmS hM hml hm1 hbn hll hbs hbel hf hkl9
      go_wp2_with (first
        | ((with_reducible show wpList _ _ _ (Oper.mk _ (Op.load 67 (.tmp 14)) _ _ _ _ :: _) _ _); refine wpList_load_mid rfl _ _ rfl g (k * 26) rfl M _ HRG.out Try.underlying67 rfl (by rw [Try.size67, HML.out]) ?_)
        | ((with_reducible show wpList _ _ _ (Oper.mk _ (Op.store 67 _ _) _ _ _ _ :: _) _ _); refine wpList_storeB (vs := M) HBN.out Try.size67 HML.out HLL.out HM1.out rfl _ _ rfl rfl rfl ?_))
      go_loopw [6, 18] (fun bv jv wx => ∃ j : Nat, j ≤ n ∧ jv = .int .i64 j ∧ bv = .bool (moreF fs k f j) ∧ Hid (Blk wx w2.heap.size 67 M) ∧ Hid (Below w2.heap.size w2 wx)) (fun _ jv _ => n - (intOf jv).toNat)
      case atStart => exact ⟨0, by omega, rfl, by rw [HM0.out], HBS, HBEL⟩
      case round =>
        obtain ⟨j, hj, rfl, rfl, HBJ, HBX⟩ := hrel
        by_cases hlt2 : j < n
        · obtain ⟨g', f', hg', hf', hrg'⟩ := (HV.out.keep (HB.out.trans (HBX.out.mono HB.out.size))).at_ hlt2
          obtain rfl : g = g' := by simpa using hg'
          have hms := HMS.out j f' hf'.out
          have hin := fun W => in_any f' f W
          unfold nailsV at hin
          obtain ⟨N, hN⟩ : ∃ N, marksL f' = N := ⟨_, rfl⟩
          have hml' := marks_len f'
          have hm1' := marks_one f'
          rw [hN] at hrg' hml' hm1' hin
          rw [HMM.out] at hin
          have hbn' := Blk.new wr 67 zeroL
          have hll' : zeroL.length = N.length := by rw [hml']; rfl
          have hbs' := hbn'.setAll hll'
          have hbel' : Below wr.heap.size wr ((wr.alloc (.cells zeroL.toArray 67)).setCells wr.heap.size 0 N) := below_setCells (Nat.le_refl _) _ _ ((Below.refl _ _).alloc (Nat.le_refl _) _)
          have hbj' := HBJ.out.keep hbel'
          generalize moreF fs k f j = m at *
          generalize inM f' f = r at *
          obtain ⟨ne, hne⟩ : ∃ ne, (!decide (boolsN f' = boolsN f)) = ne := ⟨_, rfl⟩
          rw [hne] at hms
          have HNE := Lib.hid hne
          have HNN := Lib.hid hN
          have HIN := Lib.hid hin
          have HML' := Lib.hid hml'
          have HM1' := Lib.hid hm1'
          have HRG' := Lib.hid hrg'
          have HBN' := Lib.hid hbn'
          have HLL' := Lib.hid hll'
          have HBS' := Lib.hid hbs'
          have HBJ' := Lib.hid hbj'
          have HBEL' := Lib.hid hbel'
          have HMS' := Lib.hid hms
          clear hne hin hml' hm1' hrg' hbn' hll' hbs' hbj' hbel' hms hN hg' hf' HBJ
          cases m
          · go_wp2_with (first
            | ((with_reducible show wpList _ _ _ (Oper.mk _ (Op.load 67 (.tmp 21)) _ _ _ _ :: _) _ _); refine wpList_load_mid rfl _ _ rfl g (j * 26) rfl N _ HRG'.out Try.underlying67 rfl (by rw [Try.size67, HML'.out]) ?_)
            | ((with_reducible show wpList _ _ _ (Oper.mk _ (Op.store 67 _ _) _ _ _ _ :: _) _ _); refine wpList_storeB (vs := N) HBN'.out Try.size67 HML'.out HLL'.out HM1'.out rfl _ _ rfl rfl rfl ?_)
            | ((with_reducible show wpList _ _ _ (Oper.mk _ (Op.load 67 (.tmp 8)) _ _ _ _ :: _) _ _); refine wpList_loadBg HBS'.out Try.size67 HML'.out Try.underlying67 rfl rfl _ rfl rfl ?_)
            | ((with_reducible show wpList _ _ _ (Oper.mk _ (Op.load 67 (.tmp 5)) _ _ _ _ :: _) _ _); refine wpList_loadBg HBJ'.out Try.size67 HML.out Try.underlying67 rfl rfl _ rfl rfl ?_)
            | (go_at_call 72; refine (HIN.out _).mono ?_))
            rintro e w9 ⟨rfl, hb9⟩
            have hbs9 := HBS'.out.keep hb9
            have hbj9 := HBJ'.out.keep hb9
            have HBS9 := Lib.hid hbs9
            have HBJ9 := Lib.hid hbj9
            have HB9 := Lib.hid (HBX.out.trans ((HBEL'.out.trans (hb9.mono HBEL'.out.size)).mono HBX.out.size))
            clear hbs9 hbj9 hb9
            cases r
            · go_wp2_with fail
              go_roundw
              case rel => exact ⟨j + 1, by omega, by go_num, by rw [HMS'.out]; rfl, HBJ9, HB9⟩
              case measure => simp [intOf]; omega
            · cases ne
              · by_cases hjk : j < k
                · rw [decide_eq_true hjk] at HMS'
                  go_wp2_with (first
                | ((with_reducible show wpList _ _ _ (Oper.mk _ (Op.load 67 (.tmp 8)) _ _ _ _ :: _) _ _); refine wpList_loadBg HBS9.out Try.size67 HML'.out Try.underlying67 rfl rfl _ rfl rfl ?_)
                | ((with_reducible show wpList _ _ _ (Oper.mk _ (Op.load 67 (.tmp 5)) _ _ _ _ :: _) _ _); refine wpList_loadBg HBJ9.out Try.size67 HML.out Try.underlying67 rfl rfl _ rfl rfl ?_)
                | ((with_reducible show wpList _ _ _ (Oper.mk _ (Op.binOp BinOp.neq 67 _ _ _) _ _ _ _ :: _) _ _); refine wpList_neqM HNN.out HMM.out HNE.out rfl _ _ rfl rfl rfl ?_)
                    | fail)
                  go_roundw
                  case rel => exact ⟨j + 1, by omega, by go_num, by rw [HMS'.out]; rfl, HBJ9, HB9⟩
                  case measure => simp [intOf]; omega
                · rw [decide_eq_false hjk] at HMS'
                  go_wp2_with (first
                | ((with_reducible show wpList _ _ _ (Oper.mk _ (Op.load 67 (.tmp 8)) _ _ _ _ :: _) _ _); refine wpList_loadBg HBS9.out Try.size67 HML'.out Try.underlying67 rfl rfl _ rfl rfl ?_)
                | ((with_reducible show wpList _ _ _ (Oper.mk _ (Op.load 67 (.tmp 5)) _ _ _ _ :: _) _ _); refine wpList_loadBg HBJ9.out Try.size67 HML.out Try.underlying67 rfl rfl _ rfl rfl ?_)
                | ((with_reducible show wpList _ _ _ (Oper.mk _ (Op.binOp BinOp.neq 67 _ _ _) _ _ _ _ :: _) _ _); refine wpList_neqM HNN.out HMM.out HNE.out rfl _ _ rfl rfl rfl ?_)
                    | fail)
                  go_roundw
                  case rel => exact ⟨j + 1, by omega, by go_num, by rw [HMS'.out]; rfl, HBJ9, HB9⟩
                  case measure => simp [intOf]; omega
              · go_wp2_with (first
                | ((with_reducible show wpList _ _ _ (Oper.mk _ (Op.load 67 (.tmp 8)) _ _ _ _ :: _) _ _); refine wpList_loadBg HBS9.out Try.size67 HML'.out Try.underlying67 rfl rfl _ rfl rfl ?_)
                | ((with_reducible show wpList _ _ _ (Oper.mk _ (Op.load 67 (.tmp 5)) _ _ _ _ :: _) _ _); refine wpList_loadBg HBJ9.out Try.size67 HML.out Try.underlying67 rfl rfl _ rfl rfl ?_)
                | ((with_reducible show wpList _ _ _ (Oper.mk _ (Op.binOp BinOp.neq 67 _ _ _) _ _ _ _ :: _) _ _); refine wpList_neqM HNN.out HMM.out HNE.out rfl _ _ rfl rfl rfl ?_)
                  | fail)
                go_roundw
                case rel => exact ⟨j + 1, by omega, by go_num, by rw [HMS'.out]; rfl, HBJ9, HB9⟩
                case measure => simp [intOf]; omega
          · go_wp2_with (first
            | ((with_reducible show wpList _ _ _ (Oper.mk _ (Op.load 67 (.tmp 21)) _ _ _ _ :: _) _ _); refine wpList_load_mid rfl _ _ rfl g (j * 26) rfl N _ HRG'.out Try.underlying67 rfl (by rw [Try.size67, HML'.out]) ?_)
            | ((with_reducible show wpList _ _ _ (Oper.mk _ (Op.store 67 _ _) _ _ _ _ :: _) _ _); refine wpList_storeB (vs := N) HBN'.out Try.size67 HML'.out HLL'.out HM1'.out rfl _ _ rfl rfl rfl ?_))
            go_roundw
            case rel => exact ⟨j + 1, by omega, by go_num, by rw [HMS'.out]; rfl, HBJ', HBX.out.trans (HBEL'.out.mono HBX.out.size)⟩
            case measure => simp [intOf]; omega
        · obtain rfl : j = n := by omega
          rw [HN.out] at HKS
          have hB2 := HB.out.trans (HBX.out.mono HB.out.size)
          have hO2 : OwnS wr w.heap.size u3 (keepF fs k) := World.ownsRow.keep HO.out HBX.out
          have hszr := hB2.size
          have HB2 := Lib.hid hB2
          have HO2 := Lib.hid hO2
          have hfold := fold_zero HML.out
          have hml26 : M.length = 26 := HML.out
          clear hB2 hO2
          cases hm : moreF fs k f j
          · rw [hm] at HKS
            clear hm
            go_wp2_with (first
              | ((with_reducible show wpList _ _ _ (Oper.mk _ (Op.load 67 (.tmp 5)) _ _ _ _ :: _) _ _); refine wpList_loadBg HBJ.out Try.size67 HML.out Try.underlying67 rfl rfl _ rfl rfl ?_)
              | (at_builtin; refine wpList_appS HO2.out hszr HKL9.out rfl _ _ rfl HMM.out rfl rfl (by simp) ?_; intro v4 w4 hown4 hg4 hb4 hsh4))
            go_roundw
            case rel => exact ⟨k + 1, by omega, by go_num, by show OwnS _ _ _ _; rw [HKS.out]; exact hown4, HB2.out.trans hb4⟩
            case measure => simp [intOf]; omega
          · rw [hm] at HKS
            clear hm
            go_wp2_with fail
            go_roundw
            case rel => exact ⟨k + 1, by omega, by go_num, by show OwnS _ _ _ _; rw [HKS.out]; simpa using HO2.out, HB2⟩
            case measure => simp [intOf]; omega
    · obtain rfl : k = n := by omega
      have hlt := World.ownsRow.lt HO.out
      have hkl := keepF_len fs k
      have hso := sorted_any w.heap.size u3 (keepF fs k) w2 (OwnS.sets HO.out) (by omega)
      have HSO := Lib.hid hso
      have HLT := Lib.hid hlt
      clear hso hlt
      go_wp2_with (go_at_call 73; refine HSO.out.mono ?_)
      rintro e w5 ⟨rfl, ⟨fs', hp, ho, hs5⟩, hg5⟩
      go_wp2_with fail
      try go_ret
      rw [← HN.out] at hp
      exact HPOST.out _ _ _ hp ho hs5 (HB.out.grown hg5 HB.out.size (fun r hr => (HLT.out r hr).1))
end Go.Proofs.Ytjdmmgaddbleeaa

/- Plain laws: the dual of sets; with which nails the word that hangs by them falls; the least sets of a list. -/
namespace Go.Proofs.Ytjdmmgaddbleeaa
open Go.RowKit

theorem mem_union {fs : List NS} {c : UInt8} : c ∈ strN (unionN fs) ↔ ∃ f ∈ fs, c ∈ strN f := by
  rw [mem_strN]
  unfold unionN
  rw [List.any_eq_true]
  constructor
  · rintro ⟨h1, f, hf, h2⟩
    exact ⟨f, hf, mem_strN.2 ⟨h1, h2⟩⟩
  · rintro ⟨f, hf, h⟩
    exact ⟨(mem_strN.1 h).1, f, hf, (mem_strN.1 h).2⟩
theorem meet_iff {f : NS} {t : List UInt8} : meetM f (marksOf t) = true ↔ ∃ c, c ∈ strN f ∧ c ∈ t := by
  unfold meetM
  rw [List.any_eq_true]
  constructor
  · rintro ⟨i, hi, h⟩
    rw [Bool.and_eq_true, mem_marks] at h
    obtain ⟨h1, c, hc, e⟩ := h
    have hi : i < 26 := by simpa using hi
    refine ⟨c, mem_strN.2 ⟨⟨by omega, by omega⟩, ?_⟩, hc⟩
    rw [show c.toNat - 97 = i by omega]; exact h1
  · rintro ⟨c, h1, h2⟩
    obtain ⟨h3, h4⟩ := mem_strN.1 h1
    refine ⟨c.toNat - 97, by have := h3.2; simp; omega, ?_⟩
    rw [Bool.and_eq_true, mem_marks]
    exact ⟨h4, c, h2, by have := h3.1; omega⟩
theorem dual_iff {fs : List NS} {t : List UInt8} : dualP fs t = true ↔ ∀ f ∈ fs, ∃ c, c ∈ strN f ∧ c ∈ t := by
  unfold dualP
  rw [List.all_eq_true]
  simp only [meet_iff]
theorem least_below {A : List UInt8} {p : List UInt8 → Bool} {t : List UInt8} (hA : Rise A) (ht : Rise t) (hs : ∀ c ∈ t, c ∈ A) (hp : p t = true) : ∃ d ∈ leastS A p, ∀ c ∈ d, c ∈ t := by
  obtain ⟨b, hb, rfl⟩ := subS_onto hA ht hs
  obtain ⟨c, h1, h2⟩ := minB_below (p := fun b => p (subS A b)) b hp
  have hc : c < 2 ^ A.length := by have := bitIn_le h1; omega
  refine ⟨subS A c, ?_, subL_iff.1 (by rw [subS_sub hA hc]; exact h1)⟩
  unfold leastS minsTo
  rw [mem_sortS]
  exact List.mem_map_of_mem (List.mem_filter.2 ⟨List.mem_range.2 hc, h2⟩)

/-- the dual -/
def dualS (fs : List NS) : List (List UInt8) := leastS (strN (unionN fs)) (dualP fs)
theorem mem_dualS {fs : List NS} {t : List UInt8} : t ∈ dualS fs ↔ Rise t ∧ (∀ c ∈ t, c ∈ strN (unionN fs)) ∧ dualP fs t = true ∧ ∀ u, Rise u → (∀ c ∈ u, c ∈ t) → dualP fs u = true → u = t := mem_leastS (strN_rise _) _
theorem dual_hits {fs : List NS} {T : List UInt8} : (∃ f ∈ fs, ∀ c ∈ strN f, c ∈ T) ↔ ∀ d ∈ dualS fs, ∃ c, c ∈ d ∧ c ∈ T := by
  constructor
  · rintro ⟨f, hf, h⟩ d hd
    obtain ⟨c, h1, h2⟩ := dual_iff.1 (mem_dualS.1 hd).2.2.1 f hf
    exact ⟨c, h2, h c h1⟩
  · intro h
    apply Classical.byContradiction
    intro hn
    have hn2 : ∀ f ∈ fs, ∃ c, c ∈ strN f ∧ c ∉ T := by
      intro f hf
      apply Classical.byContradiction
      intro h2
      refine hn ⟨f, hf, fun c hc => ?_⟩
      apply Classical.byContradiction
      intro h3
      exact h2 ⟨c, hc, h3⟩
    obtain ⟨d, hd, hsub⟩ := least_below (A := strN (unionN fs)) (p := dualP fs) (t := (strN (unionN fs)).filter fun c => !T.contains c) (strN_rise _) ((strN_rise _).filter _) (fun c hc => (List.mem_filter.1 hc).1) (by
      rw [dual_iff]
      intro f hf
      obtain ⟨c, h1, h2⟩ := hn2 f hf
      exact ⟨c, h1, List.mem_filter.2 ⟨mem_union.2 ⟨f, hf, h1⟩, by simpa using h2⟩⟩)
    obtain ⟨c, h1, h2⟩ := h d hd
    have := (List.mem_filter.1 (hsub c h1)).2
    simp at this
    exact this h2

/- commutators -/
theorem Rd.app_mid {b c : List UInt8} (hb : b ≠ []) (h2 : Rd (b ++ c)) : ∀ {a : List UInt8}, Rd (a ++ b) → Rd (a ++ b ++ c)
  | [], _ => h2
  | [x], h => by
    cases b with
    | nil => exact absurd rfl hb
    | cons y k => exact .cons x y _ (Rd.ne h) h2
  | x :: y :: a, h => .cons x y _ (Rd.ne h) (Rd.app_mid hb h2 (a := y :: a) h.tail)
theorem Rd.app_diff {b : List UInt8} (hb : Rd b) : ∀ {a : List UInt8}, Rd a → (∀ x ∈ a, ∀ y ∈ b, nailB x ≠ nailB y) → Rd (a ++ b)
  | [], _, _ => hb
  | [x], _, h => by
    cases b with
    | nil => exact .one x
    | cons y k => exact .cons x y _ (fun e => h x (by simp) y (by simp) (by rw [e, nail_inv])) hb
  | x :: y :: a, ha, h => .cons x y _ (Rd.ne ha) (Rd.app_diff hb (a := y :: a) ha.tail fun u hu v hv => h u (List.mem_cons_of_mem _ hu) v hv)
theorem mem_invL {l : List UInt8} {c : UInt8} (h : c ∈ invL l) : ∃ d ∈ l, nailB c = nailB d := by
  unfold invL at h
  obtain ⟨d, hd, rfl⟩ := List.mem_map.1 (List.mem_reverse.1 h)
  exact ⟨d, hd, nail_inv d⟩
theorem mem_comm : ∀ {t : List UInt8} {c : UInt8}, c ∈ commL t → ∃ d ∈ t, nailB c = nailB d
  | [], c, h => by simp [commL] at h
  | [x], c, h => by
    simp [commL] at h
    exact ⟨x, by simp, by rw [h]⟩
  | x :: y :: l, c, h => by
    rw [commL] at h
    simp only [List.mem_append, List.mem_singleton] at h
    rcases h with ((h | h) | h) | h
    · exact ⟨x, by simp, by rw [h]⟩
    · obtain ⟨d, hd, e⟩ := mem_comm h
      exact ⟨d, List.mem_cons_of_mem _ hd, e⟩
    · exact ⟨x, by simp, by rw [h, nail_inv]⟩
    · obtain ⟨e, he, h2⟩ := mem_invL h
      obtain ⟨d, hd, h3⟩ := mem_comm he
      exact ⟨d, List.mem_cons_of_mem _ hd, h2.trans h3⟩
theorem comm_ne : ∀ {t : List UInt8}, t ≠ [] → commL t ≠ []
  | [], h => absurd rfl h
  | [c], _ => by simp [commL]
  | c :: d :: l, _ => by simp [commL]
theorem comm_rd : ∀ {t : List UInt8}, (t.map nailB).Nodup → Rd (commL t)
  | [], _ => .nil
  | [c], _ => .one c
  | c :: d :: l, h => by
    rw [List.map_cons, List.nodup_cons] at h
    have hr := comm_rd (t := d :: l) h.2
    have hdiff : ∀ y ∈ commL (d :: l), nailB c ≠ nailB y := by
      intro y hy e
      obtain ⟨z, hz, e2⟩ := mem_comm hy
      exact h.1 (List.mem_map.2 ⟨z, hz, by rw [← e2, e]⟩)
    have hdiff2 : ∀ y ∈ invL (commL (d :: l)), nailB c ≠ nailB y := by
      intro y hy e
      obtain ⟨z, hz, e2⟩ := mem_invL hy
      exact hdiff z hz (by rw [e, e2])
    rw [commL]
    have h1 : Rd ([c] ++ commL (d :: l)) := Rd.app_diff hr (.one c) (fun x hx y hy => by simp at hx; rw [hx]; exact hdiff y hy)
    have h2 : Rd (commL (d :: l) ++ [invB c]) := Rd.app_diff (.one _) hr (fun x hx y hy => by simp at hy; rw [hy, nail_inv]; exact fun e => hdiff x hx e.symm)
    have h3 : Rd ([invB c] ++ invL (commL (d :: l))) := Rd.app_diff hr.rev (.one _) (fun x hx y hy => by simp at hx; rw [hx, nail_inv]; exact hdiff2 y hy)
    have h4 := Rd.app_mid (comm_ne (by simp)) h2 h1
    exact Rd.app_mid (by simp) h3 h4
theorem comm_falls {f : NS} : ∀ {t : List UInt8}, (∃ c ∈ t, f (nailB c) = true) → Eqv (keep f (commL t)) []
  | [], h => by obtain ⟨c, hc, _⟩ := h; simp at hc
  | [x], h => by
    obtain ⟨c, hc, hf⟩ := h
    simp at hc
    subst hc
    simp [commL, keep, hf, Eqv.refl]
  | x :: y :: l, h => by
    rw [commL, keep_app, keep_app, keep_app, keep_inv]
    by_cases hx : f (nailB x) = true
    · have e1 : keep f [x] = [] := by simp [keep, hx]
      have e2 : keep f [invB x] = [] := by simp [keep, hx, nail_inv]
      rw [e1, e2]
      simpa using Eqv.inv_right (keep f (commL (y :: l)))
    · have hr : Eqv (keep f (commL (y :: l))) [] := by
        apply comm_falls
        obtain ⟨c, hc, hf⟩ := h
        rcases List.mem_cons.1 hc with rfl | hc
        · exact absurd hf hx
        · exact ⟨c, hc, hf⟩
      have e1 : keep f [x] = [x] := by simp [keep, hx]
      have e2 : keep f [invB x] = [invB x] := by simp [keep, hx, nail_inv]
      rw [e1, e2]
      have h1 : Eqv ([x] ++ keep f (commL (y :: l)) ++ [invB x] ++ invL (keep f (commL (y :: l)))) ([x] ++ [] ++ [invB x] ++ invL []) :=
        ((Eqv.left [x] hr).right [invB x]).app hr.inv
      refine h1.trans ?_
      exact redW_pair x
theorem comm_keep {f : NS} {t : List UInt8} (h : ∀ c ∈ t, f (nailB c) = false) : keep f (commL t) = commL t := by
  unfold keep
  rw [List.filter_eq_self]
  intro c hc
  obtain ⟨d, hd, e⟩ := mem_comm hc
  rw [e, h d hd]
  rfl
theorem flat_eqv {f : NS} : ∀ {L : List (List UInt8)}, (∀ l ∈ L, Eqv (keep f l) []) → Eqv (keep f L.flatten) []
  | [], _ => rfl
  | l :: L, h => by
    rw [List.flatten_cons, keep_app]
    exact (h l (by simp)).app (flat_eqv fun k hk => h k (List.mem_cons_of_mem _ hk))
theorem flat_one {f : NS} {d : List UInt8} : ∀ {L : List (List UInt8)}, L.Nodup → d ∈ L → (∀ l ∈ L, l ≠ d → Eqv (keep f (commL l)) []) → Eqv (keep f (L.map commL).flatten) (keep f (commL d))
  | [], _, h, _ => by simp at h
  | l :: L, hn, hd, h => by
    rw [List.nodup_cons] at hn
    rw [List.map_cons, List.flatten_cons, keep_app]
    by_cases e : l = d
    · subst e
      have h1 : Eqv (keep f (L.map commL).flatten) [] := flat_eqv (by
        intro k hk
        obtain ⟨m, hm, rfl⟩ := List.mem_map.1 hk
        exact h m (List.mem_cons_of_mem _ hm) (fun e => hn.1 (e ▸ hm)))
      have := Eqv.left (keep f (commL l)) h1
      simpa using this
    · have hd2 : d ∈ L := by
        rcases List.mem_cons.1 hd with h2 | h2
        · exact absurd h2.symm e
        · exact h2
      have h1 := flat_one hn.2 hd2 fun k hk => h k (List.mem_cons_of_mem _ hk)
      have h2 := h l (by simp) e
      exact h2.app h1
theorem asc_nodup {L : List (List UInt8)} (h : Asc L) : L.Nodup := by
  refine h.imp ?_
  rintro a b hab rfl
  rw [ltB_irr] at hab
  cases hab
theorem nail_small {c : UInt8} (h : smallB c) : nailB c = c.toNat - 97 := (let_nail c h).2
theorem marks_nail {T : List UInt8} {c : UInt8} (h : smallB c) : marksOf T (nailB c) = true ↔ c ∈ T := by
  rw [mem_marks, nail_small h]
  have := h.1
  constructor
  · rintro ⟨d, hd, e⟩
    obtain rfl : d = c := UInt8.toNat_inj.1 (by omega)
    exact hd
  · intro hc
    exact ⟨c, hc, by omega⟩
theorem rise_nails {t : List UInt8} (h : Rise t) (hs : ∀ c ∈ t, smallB c) : (t.map nailB).Nodup := by
  unfold List.Nodup
  rw [List.pairwise_map]
  refine List.Pairwise.imp_of_mem ?_ h
  intro a b ha hb hab e
  have h1 := hs a ha
  have h2 := hs b hb
  rw [nail_small h1, nail_small h2] at e
  rw [u8_lt] at hab
  have := h1.1; have := h2.1
  omega
/-- with which nails the word falls -/
theorem falls_hang {fs : List NS} (h0 : fs ≠ []) {T : List UInt8} : fallsP (hangL fs) T = true ↔ ∃ f ∈ fs, ∀ c ∈ strN f, c ∈ T := by
  have hsm : ∀ d ∈ dualS fs, ∀ c ∈ d, smallB c := fun d hd c hc => (mem_strN.1 ((mem_dualS.1 hd).2.1 c hc)).1
  have hfe : ∀ f : NS, (redL f (hangL fs)).isEmpty = true ↔ Eqv (keep f ((dualS fs).map commL).flatten) [] := by
    intro f
    rw [redL_keep, eqv_empty]
    rfl
  unfold fallsP
  rw [dual_hits, hfe]
  constructor
  · intro h
    apply Classical.byContradiction
    intro hn
    have hn2 : ∃ d ∈ dualS fs, ∀ c ∈ d, c ∉ T := by
      apply Classical.byContradiction
      intro h2
      apply hn
      intro d hd
      apply Classical.byContradiction
      intro h3
      exact h2 ⟨d, hd, fun c hc hT => h3 ⟨c, hc, hT⟩⟩
    obtain ⟨d, hd, hdT⟩ := hn2
    have h1 : redL (marksOf T) (hangL fs) = [] := by simpa using (hfe _).2 h
    have h2 := falls_more (g := fun i => !marksOf d i) (f := marksOf T) (l := hangL fs) (by
      intro i hi
      show (!marksOf d i) = true
      cases hm : marksOf d i
      · rfl
      · exfalso
        obtain ⟨c, hc, e⟩ := mem_marks.1 hi
        obtain ⟨c', hc', e'⟩ := mem_marks.1 hm
        obtain rfl : c = c' := UInt8.toNat_inj.1 (by omega)
        exact hdT c hc' hc) h1
    have h3 := (hfe fun i => !marksOf d i).1 (by rw [h2]; rfl)
    have h4 : Eqv (keep (fun i => !marksOf d i) ((dualS fs).map commL).flatten) (keep (fun i => !marksOf d i) (commL d)) := by
      refine flat_one (asc_nodup (sortS_asc _)) hd ?_
      intro s hs hne
      apply comm_falls
      apply Classical.byContradiction
      intro h5
      apply hne
      refine (mem_dualS.1 hd).2.2.2 s (mem_dualS.1 hs).1 ?_ (mem_dualS.1 hs).2.2.1
      intro c hc
      apply Classical.byContradiction
      intro h6
      apply h5
      refine ⟨c, hc, ?_⟩
      show (!marksOf d (nailB c)) = true
      cases hm : marksOf d (nailB c)
      · rfl
      · exact absurd ((marks_nail (hsm s hs c hc)).1 hm) h6
    rw [comm_keep (f := fun i => !marksOf d i)] at h4
    · have h7 : Eqv (commL d) [] := h4.symm.trans h3
      have h8 : Rd (commL d) := comm_rd (rise_nails (mem_dualS.1 hd).1 (hsm d hd))
      exact comm_ne (dual_ne h0 (mem_dualS.1 hd).2.2.1) (h7.of_rd h8 .nil)
    · intro c hc
      show (!marksOf d (nailB c)) = false
      rw [(marks_nail (hsm d hd c hc)).2 hc]
      rfl
  · intro h
    apply flat_eqv
    intro l hl
    obtain ⟨d, hd, rfl⟩ := List.mem_map.1 hl
    apply comm_falls
    obtain ⟨c, h1, h2⟩ := h d hd
    exact ⟨c, h1, (marks_nail (hsm d hd c h1)).2 h2⟩

/-- the least strings of a list, in order -/
def minS (L : List (List UInt8)) : List (List UInt8) := sortS (L.filter (lst L))
theorem mem_minS {L : List (List UInt8)} {t : List UInt8} : t ∈ minS L ↔ t ∈ L ∧ ∀ u ∈ L, (∀ c ∈ u, c ∈ t) → u = t := by
  unfold minS
  rw [mem_sortS, List.mem_filter]
  unfold lst
  rw [List.all_eq_true]
  constructor
  · rintro ⟨h1, h2⟩
    refine ⟨h1, fun u hu hs => ?_⟩
    have h3 := h2 u hu
    rw [Bool.or_eq_true, decide_eq_true_iff] at h3
    rcases h3 with h3 | h3
    · exact h3
    · exfalso
      have h4 : inL t u = subL u t := rfl
      rw [h4, subL_iff.2 hs] at h3
      cases h3
  · rintro ⟨h1, h2⟩
    refine ⟨h1, fun u hu => ?_⟩
    rw [Bool.or_eq_true, decide_eq_true_iff]
    by_cases h : subL u t = true
    · exact .inl (h2 u hu (subL_iff.1 h))
    · right
      have h4 : inL t u = subL u t := rfl
      rw [h4]
      simpa using h
theorem minS_asc (L : List (List UInt8)) : Asc (minS L) := sortS_asc _
theorem rise_anti {s t : List UInt8} (hs : Rise s) (ht : Rise t) (h1 : ∀ c ∈ s, c ∈ t) (h2 : ∀ c ∈ t, c ∈ s) : s = t := rise_ext hs ht fun c => ⟨h1 c, h2 c⟩
/-- the falling sets of the word -/
theorem sets_hang {fs : List NS} (h0 : fs ≠ []) : setsL (hangL fs) = minS (fs.map strN) := by
  refine asc_ext (setsL_asc _) (minS_asc _) fun t => ?_
  rw [setsL_iff, mem_minS]
  constructor
  · rintro ⟨h1, h2, h3, h4⟩
    obtain ⟨f, hf, hs⟩ := (falls_hang h0).1 h3
    have e := h4 (strN f) (strN_rise f) hs ((falls_hang h0).2 ⟨f, hf, fun c hc => hc⟩)
    refine ⟨List.mem_map.2 ⟨f, hf, e⟩, ?_⟩
    intro u hu hs2
    obtain ⟨g, hg, rfl⟩ := List.mem_map.1 hu
    exact h4 (strN g) (strN_rise g) hs2 ((falls_hang h0).2 ⟨g, hg, fun c hc => hc⟩)
  · rintro ⟨h1, h2⟩
    obtain ⟨f, hf, rfl⟩ := List.mem_map.1 h1
    refine ⟨strN_rise f, fun c hc => (mem_strN.1 hc).1, (falls_hang h0).2 ⟨f, hf, fun c hc => hc⟩, ?_⟩
    intro u hu hs hp
    obtain ⟨g, hg, hgu⟩ := (falls_hang h0).1 hp
    have e := h2 (strN g) (List.mem_map_of_mem hg) (fun c hc => hs c (hgu c hc))
    exact rise_anti hu (strN_rise f) hs (fun c hc => hgu c (by rw [e]; exact hc))
/-- the dual of the dual -/
theorem dual_dual {fs ds : List NS} (hd : ds.map strN = dualS fs) : dualS ds = minS (fs.map strN) := by
  have key : ∀ t, dualP ds t = true ↔ ∃ f ∈ fs, ∀ c ∈ strN f, c ∈ t := by
    intro t
    rw [dual_hits, dual_iff]
    constructor
    · intro h d hd2
      rw [← hd] at hd2
      obtain ⟨g, hg, rfl⟩ := List.mem_map.1 hd2
      exact h g hg
    · intro h g hg
      exact h (strN g) (by rw [← hd]; exact List.mem_map_of_mem hg)
  refine asc_ext (sortS_asc _) (minS_asc _) fun t => ?_
  rw [mem_dualS, mem_minS]
  constructor
  · rintro ⟨h1, h2, h3, h4⟩
    obtain ⟨f, hf, hs⟩ := (key t).1 h3
    have e := h4 (strN f) (strN_rise f) hs ((key _).2 ⟨f, hf, fun c hc => hc⟩)
    refine ⟨List.mem_map.2 ⟨f, hf, e⟩, ?_⟩
    intro u hu hs2
    obtain ⟨g, hg, rfl⟩ := List.mem_map.1 hu
    exact h4 (strN g) (strN_rise g) hs2 ((key _).2 ⟨g, hg, fun c hc => hc⟩)
  · rintro ⟨h1, h2⟩
    obtain ⟨f, hf, rfl⟩ := List.mem_map.1 h1
    refine ⟨strN_rise f, ?_, (key _).2 ⟨f, hf, fun c hc => hc⟩, ?_⟩
    · have h3 : dualP ds ((strN f).filter fun c => (strN (unionN ds)).contains c) = true := by
        rw [dual_iff]
        intro g hg
        obtain ⟨c, hc1, hc2⟩ := dual_iff.1 ((key (strN f)).2 ⟨f, hf, fun c hc => hc⟩) g hg
        exact ⟨c, hc1, List.mem_filter.2 ⟨hc2, by rw [List.contains_iff_mem]; exact mem_union.2 ⟨g, hg, hc1⟩⟩⟩
      obtain ⟨g, hg, hgs⟩ := (key _).1 h3
      have e := h2 (strN g) (List.mem_map_of_mem hg) (fun c hc => (List.mem_filter.1 (hgs c hc)).1)
      intro c hc
      rw [← e] at hc
      simpa using (List.mem_filter.1 (hgs c hc)).2
    · intro u hu hs hp
      obtain ⟨g, hg, hgu⟩ := (key u).1 hp
      have e := h2 (strN g) (List.mem_map_of_mem hg) (fun c hc => hs c (hgu c hc))
      exact rise_anti hu (strN_rise f) hs (fun c hc => hgu c (by rw [e]; exact hc))
theorem bools_str {f g : NS} : boolsN f = boolsN g ↔ strN f = strN g := by
  rw [bools_eq]
  exact ⟨strN_congr, fun h i hi => strN_inj h hi⟩
theorem moreF_iff {fs : List NS} {i : Nat} {s : NS} : moreF fs i s fs.length = true ↔ ∃ j t, fs[j]? = some t ∧ (∀ c ∈ strN t, c ∈ strN s) ∧ (strN t ≠ strN s ∨ j < i) := by
  unfold moreF
  rw [List.take_length, List.any_eq_true]
  constructor
  · rintro ⟨⟨t, j⟩, hm, h⟩
    rw [List.mem_zipIdx_iff_getElem?] at hm
    rw [Bool.and_eq_true, Bool.or_eq_true, decide_eq_true_iff, inM_sub, subL_iff] at h
    refine ⟨j, t, hm, h.1, ?_⟩
    rcases h.2 with h2 | h2
    · left
      intro e
      rw [decide_eq_true (bools_str.2 e)] at h2
      cases h2
    · exact .inr h2
  · rintro ⟨j, t, hm, h1, h2⟩
    refine ⟨(t, j), List.mem_zipIdx_iff_getElem?.2 hm, ?_⟩
    rw [Bool.and_eq_true, Bool.or_eq_true, decide_eq_true_iff, inM_sub, subL_iff]
    refine ⟨h1, ?_⟩
    rcases h2 with h2 | h2
    · left
      rw [decide_eq_false (fun e => h2 (bools_str.1 e))]
      rfl
    · exact .inr h2
theorem mem_keepF {fs : List NS} {k : Nat} {f : NS} : f ∈ keepF fs k ↔ ∃ j, j < k ∧ fs[j]? = some f ∧ moreF fs j f fs.length = false := by
  unfold keepF
  rw [List.mem_map]
  constructor
  · rintro ⟨⟨g, j⟩, hm, rfl⟩
    rw [List.mem_filter, List.mem_zipIdx_iff_getElem?] at hm
    obtain ⟨h1, h2⟩ := hm
    have hj : j < k := by
      apply Classical.byContradiction
      intro h
      rw [List.getElem?_eq_none (by rw [List.length_take]; show min k fs.length ≤ j; omega)] at h1
      cases h1
    refine ⟨j, hj, ?_, by simpa using h2⟩
    have h3 : (fs.take k)[j]? = some g := h1
    rwa [List.getElem?_take_of_lt hj] at h3
  · rintro ⟨j, hj, h1, h2⟩
    refine ⟨(f, j), List.mem_filter.2 ⟨List.mem_zipIdx_iff_getElem?.2 ?_, by simp [h2]⟩, rfl⟩
    show (fs.take k)[j]? = some f
    rw [List.getElem?_take_of_lt hj]; exact h1
theorem keepF_nodup (fs : List NS) : ∀ k, k ≤ fs.length → ((keepF fs k).map strN).Nodup
  | 0, _ => by simp [keepF]
  | k + 1, h => by
    have e : fs[k]? = some fs[k] := List.getElem?_eq_getElem h
    rw [keepF_succ e]
    have ih := keepF_nodup fs k (by omega)
    split
    · simpa using ih
    · rename_i hm
      rw [List.map_append, List.nodup_append]
      refine ⟨ih, by simp, ?_⟩
      intro a ha b hb hab
      simp at hb
      subst hb hab
      obtain ⟨t, ht, e2⟩ := List.mem_map.1 ha
      obtain ⟨j, hj, h1, _⟩ := mem_keepF.1 ht
      exact hm (moreF_iff.2 ⟨j, t, h1, by rw [e2]; exact fun c hc => hc, .inr hj⟩)
/-- what reduced leaves -/
theorem keep_min {fs fs' : List NS} (hp : fs'.Perm (keepF fs fs.length)) (ho : InOrder fs') : fs'.map strN = minS (fs.map strN) := by
  have hp2 := hp.map strN
  refine asc_ext (asc_of ?_ ?_) (minS_asc _) fun x => ?_
  · rw [List.pairwise_map]; exact ho
  · exact hp2.nodup_iff.2 (keepF_nodup fs _ (Nat.le_refl _))
  · rw [hp2.mem_iff, mem_minS, List.mem_map]
    constructor
    · rintro ⟨f, hf, rfl⟩
      obtain ⟨j, hj, h1, h2⟩ := mem_keepF.1 hf
      refine ⟨List.mem_map_of_mem (List.mem_of_getElem? h1), ?_⟩
      intro u hu hs
      obtain ⟨g, hg, rfl⟩ := List.mem_map.1 hu
      obtain ⟨i, hi, e⟩ := List.getElem_of_mem hg
      apply Classical.byContradiction
      intro hne
      rw [moreF_iff.2 ⟨i, g, by rw [List.getElem?_eq_getElem hi, e], hs, .inl hne⟩] at h2
      cases h2
    · rintro ⟨h1, h2⟩
      have hex : ∃ j : Nat, ∃ f, fs[j]? = some f ∧ strN f = x := by
        obtain ⟨f, hf, e⟩ := List.mem_map.1 h1
        obtain ⟨i, hi, e2⟩ := List.getElem_of_mem hf
        exact ⟨i, f, by rw [List.getElem?_eq_getElem hi, e2], e⟩
      obtain ⟨j, ⟨f, hj, e⟩, hmin⟩ : ∃ j : Nat, (∃ f, fs[j]? = some f ∧ strN f = x) ∧ ∀ i, i < j → ¬ ∃ f, fs[i]? = some f ∧ strN f = x := by
        obtain ⟨n, hn⟩ := hex
        induction n using Nat.strongRecOn with
        | ind n ih =>
          by_cases h : ∃ i, i < n ∧ ∃ f, fs[i]? = some f ∧ strN f = x
          · obtain ⟨i, hi, h⟩ := h
            exact ih i hi h
          · exact ⟨n, hn, fun i hi h2 => h ⟨i, hi, h2⟩⟩
      refine ⟨f, mem_keepF.2 ⟨j, (List.getElem?_eq_some_iff.1 hj).1, hj, ?_⟩, e⟩
      rw [Bool.eq_false_iff]
      intro hm
      obtain ⟨i, t, hi, hs, h3⟩ := moreF_iff.1 hm
      rw [e] at hs h3
      have et := h2 (strN t) (List.mem_map_of_mem (List.mem_of_getElem? hi)) hs
      rcases h3 with h3 | h3
      · exact h3 et
      · exact hmin i h3 ⟨t, hi, et⟩
end Go.Proofs.Ytjdmmgaddbleeaa

/- Least and Dual of good sets: the walks. -/
namespace Go.Proofs.Ytjdmmgaddbleeaa
open Go.RowKit

theorem marks_strs {ss : List ByteArray} (hset : ∀ s ∈ ss, isSet 0 (bts s) = true) : (ss.map markB).map strN = ss.map bts := by
  rw [List.map_map]
  apply List.map_congr_left
  intro s hs
  exact strN_marks (hset s hs)
theorem strOf_map (fs : List NS) : fs.map strOf = (fs.map strN).map strB := by rw [List.map_map]; rfl

set_option maxRecDepth 100000 in
set_option maxHeartbeats 2000000 in
theorem Least_any (v : Value) (ss : List ByteArray) (w : World) (hv : Strs w v ss) (hl : ss.length ≤ 100) (hset : ∀ s ∈ ss, isSet 0 (bts s) = true ∧ s.size ≤ 1000) :
    Calls Try.prog 33 #[v] w fun e w' => ∃ u, e = .returned (.tuple #[u, .int .i64 0]) ∧ Strs w' u ((minS (ss.map bts)).map strB) ∧ Below w.heap.size w w' := by
  have hrd := read_any _ ss w hv hl hset
  have hfl : (ss.map markB).length ≤ 100 := by rw [List.length_map]; exact hl
  have hms := marks_strs fun s hs => (hset s hs).1
  generalize ss.map markB = fs at *
  rw [← hms]
  have HRD := Lib.hid hrd
  clear hrd hms hv hset hl
  go_enter Try.func33, Try.ntmps33
  go_wp2_with (go_at_call 49; refine HRD.out.mono ?_)
  rintro e w1 ⟨u1, rfl, ho1, hb1⟩
  have hre := reduced_any _ _ fs w1 (OwnS.sets ho1) (by omega)
  have HRE := Lib.hid hre
  have HB1 := Lib.hid hb1
  clear hre ho1 hb1
  go_wp2_with (go_at_call 65; refine HRE.out.mono ?_)
  rintro e w2 ⟨u2, fs', rfl, hp, ho, hs2, hb2⟩
  have hlen : fs'.length ≤ 1000000000 := by
    have := hp.length_eq
    have := keepF_len fs fs.length
    omega
  have hli := listed_any _ _ fs' w2 hs2 hlen
  rw [strOf_map, keep_min hp ho] at hli
  have HLI := Lib.hid hli
  have HB2 := Lib.hid (HB1.out.trans (hb2.mono HB1.out.size))
  clear hli hlen hp ho hs2 hb2
  go_wp2_with (go_at_call 41; refine HLI.out.mono ?_)
  rintro e w3 ⟨u3, rfl, hst, hb3⟩
  go_wp2_with fail
  go_ret2
  exact ⟨_, rfl, hst, HB2.out.trans (hb3.mono HB2.out.size)⟩

set_option maxRecDepth 100000 in
set_option maxHeartbeats 2000000 in
theorem Dual_any (v : Value) (ss : List ByteArray) (w : World) (hv : Strs w v ss) (hl : ss.length ≤ 100) (h0 : ss ≠ []) (hset : ∀ s ∈ ss, isSet 0 (bts s) = true ∧ s.size ≤ 1000) (hne : ∀ s ∈ ss, bts s ≠ [])
    (hten : (strN (unionN (ss.map markB))).length ≤ 10) :
    Calls Try.prog 34 #[v] w fun e w' => ∃ u, e = .returned (.tuple #[u, .int .i64 0]) ∧ Strs w' u ((dualS (ss.map markB)).map strB) ∧ Below w.heap.size w w' := by
  obtain ⟨a, n, cap, rfl, HN, hn1, hn2⟩ := hv.open
  have hrd := read_any _ ss w hv hl hset
  have hfl : (ss.map markB).length = n := by rw [List.length_map]; exact HN.out
  have hf0 : ss.map markB ≠ [] := by simpa using h0
  have hem : ((ss.map markB).any fun g => (strN g).isEmpty) = false := by
    rw [Bool.eq_false_iff]
    intro h
    obtain ⟨g, hg, h2⟩ := List.any_eq_true.1 h
    obtain ⟨s, hs, rfl⟩ := List.mem_map.1 hg
    rw [strN_marks (hset s hs).1, List.isEmpty_iff] at h2
    exact hne s hs h2
  have hn0 : n ≠ 0 := by
    intro e
    rw [e] at hfl
    exact hf0 (List.eq_nil_of_length_eq_zero hfl)
  have hn100 : n ≤ 100 := by have := HN.out; omega
  generalize ss.map markB = fs at *
  have t0 : ((n : Int) == 0) = false := by simp; omega
  have hmany : decide (10 < (strN (unionN fs)).length) = false := decide_eq_false (by omega)
  have HRD := Lib.hid hrd
  have HFL := Lib.hid hfl
  have HF0 := Lib.hid hf0
  have HEM := Lib.hid hem
  have HMANY := Lib.hid hmany
  clear hrd hfl hf0 hem hmany hv hset hne h0 hl HN hn0
  go_enter Try.func34, Try.ntmps34
  go_wp2_with (go_at_call 49; refine HRD.out.mono ?_)
  rintro e w1 ⟨u, rfl, ho1, hb1⟩
  have hs1 := OwnS.sets ho1
  obtain ⟨a1, c1, rfl, _, _⟩ := hs1.shape HFL.out
  have hco := contains0_any _ _ fs w1 hs1 HF0.out
  rw [HEM.out] at hco
  have HCO := Lib.hid hco
  have HS1 := Lib.hid hs1
  have HB1 := Lib.hid hb1
  clear hco hs1 hb1 ho1
  go_wp2_with (go_at_call 51; refine HCO.out.mono ?_)
  rintro e w2 ⟨rfl, hb2⟩
  have hs2 := HS1.out.keep hb2
  have hma := many_any _ _ fs w2 hs2 (by rw [HFL.out]; omega)
  rw [HMANY.out] at hma
  have HMA := Lib.hid hma
  have HS2 := Lib.hid hs2
  have HB2 := Lib.hid (HB1.out.trans (hb2.mono HB1.out.size))
  clear hma hs2 hb2
  go_wp2_with (go_at_call 50; refine HMA.out.mono ?_)
  rintro e w3 ⟨rfl, hb3⟩
  have hs3 := HS2.out.keep hb3
  have hdu := dual_any _ _ fs w3 hs3 (by rw [HFL.out]; omega)
  have HDU := Lib.hid hdu
  have HB3 := Lib.hid (HB2.out.trans (hb3.mono HB2.out.size))
  clear hdu hs3 hb3
  go_wp2_with (go_at_call 52; refine HDU.out.mono ?_)
  rintro e w4 ⟨u4, ds, rfl, hds, hdl, hs4, hb4⟩
  have hli := listed_any _ _ ds w4 hs4 (by omega)
  rw [strOf_map, hds] at hli
  have HLI := Lib.hid hli
  have HB4 := Lib.hid (HB3.out.trans (hb4.mono HB3.out.size))
  clear hli hs4 hb4
  go_wp2_with (go_at_call 41; refine HLI.out.mono ?_)
  rintro e w5 ⟨u5, rfl, hst, hb5⟩
  go_wp2_with fail
  go_ret2
  exact ⟨_, rfl, hst, HB4.out.trans (hb5.mono HB4.out.size)⟩
end Go.Proofs.Ytjdmmgaddbleeaa

/- Plain laws of the law's sets: few nails, short words. -/
namespace Go.Proofs.Ytjdmmgaddbleeaa
open Go.RowKit

/-- letters of the first nails alone -/
def fewB (n : Nat) (t : List UInt8) : Prop := ∀ c ∈ t, smallB c ∧ c.toNat < 97 + n
theorem setI_few {n : Nat} (h2 : 2 ≤ n) (h : n ≤ 26) (emp : Bool) (x : Int) : fewB n (setI n emp x) := by
  intro c hc
  unfold setI at hc
  split at hc
  · simp at hc
    subst hc
    exact ⟨⟨by decide, by decide⟩, by show 98 < 97 + n; omega⟩
  · rw [bitsTo_strN x h, mem_strN] at hc
    refine ⟨hc.1, ?_⟩
    have := hc.2
    simp only [Bool.and_eq_true, decide_eq_true_iff] at this
    have := hc.1.1
    omega
theorem few_len {n : Nat} {f : NS} (h : ∀ i, i < 26 → f i = true → i < n) : (strN f).length ≤ n := by
  have e : strN f = strTo f (min n 26) := by
    unfold strN strTo
    congr 1
    have h2 : List.range 26 = List.range (min n 26) ++ (List.range (26 - min n 26)).map fun i => min n 26 + i := by
      rw [← List.range_add, show min n 26 + (26 - min n 26) = 26 by omega]
    rw [h2, List.filter_append]
    have h3 : ((List.range (26 - min n 26)).map fun i => min n 26 + i).filter f = [] := by
      rw [List.filter_eq_nil_iff]
      intro a ha
      obtain ⟨i, hi, rfl⟩ := List.mem_map.1 ha
      rw [List.mem_range] at hi
      intro h4
      have := h (min n 26 + i) (by omega) h4
      omega
    rw [h3, List.append_nil]
  rw [e]
  have := strTo_len f (min n 26)
  omega
theorem union_few {n : Nat} {L : List (List UInt8)} (h : ∀ t ∈ L, fewB n t) : (strN (unionN (L.map marksOf))).length ≤ n := by
  apply few_len
  intro i _ hu
  unfold unionN at hu
  obtain ⟨f, hf, h2⟩ := List.any_eq_true.1 hu
  obtain ⟨t, ht, rfl⟩ := List.mem_map.1 hf
  obtain ⟨c, hc, e⟩ := mem_marks.1 h2
  have := (h t ht c hc).2
  omega
theorem marks_map {L : List (List UInt8)} (h : ∀ t ∈ L, isSet 0 t = true) : (L.map marksOf).map strN = L := by
  rw [List.map_map]
  conv => rhs; rw [← List.map_id L]
  apply List.map_congr_left
  intro t ht
  exact strN_marks (h t ht)
theorem dual_few {n : Nat} {L : List (List UInt8)} (h : ∀ t ∈ L, fewB n t) : ∀ d ∈ dualS (L.map marksOf), isSet 0 d = true ∧ fewB n d ∧ d.length ≤ n := by
  intro d hd
  have h1 := mem_dualS.1 hd
  refine ⟨isSet_zero.2 ⟨fun c hc => (mem_strN.1 (h1.2.1 c hc)).1, h1.1⟩, ?_, ?_⟩
  · intro c hc
    obtain ⟨f, hf, h2⟩ := mem_union.1 (h1.2.1 c hc)
    obtain ⟨t, ht, rfl⟩ := List.mem_map.1 hf
    obtain ⟨h3, h4⟩ := mem_strN.1 h2
    obtain ⟨c', hc', e⟩ := mem_marks.1 h4
    refine ⟨h3, ?_⟩
    have := (h t ht c' hc').2
    have := h3.1
    omega
  · exact Nat.le_trans (mem_least_len hd) (union_few h)
theorem comm_word : ∀ {t : List UInt8}, isWord t = true → isWord (commL t) = true
  | [], _ => rfl
  | [c], h => h
  | c :: d :: l, h => by
    have h1 : isWord [c] = true := isWord_sub h (fun x hx => by simp at hx; rw [hx]; simp)
    have h2 : isWord (d :: l) = true := isWord_sub h (fun x hx => List.mem_cons_of_mem _ hx)
    have h3 := comm_word h2
    have h4 : isWord [invB c] = true := by
      have := invL_word h1
      exact this
    rw [commL]
    exact isWord_app (isWord_app (isWord_app h1 h3) h4) (invL_word h3)
theorem small_letter : ∀ c : UInt8, (97 ≤ c.toNat ∧ c.toNat ≤ 122) → letter (c.toNat : Int) = true := for_bytes (by decide +kernel)
theorem small_word {t : List UInt8} (h : ∀ c ∈ t, smallB c) : isWord t = true := List.all_eq_true.2 fun c hc => small_letter c (h c hc)
theorem flat_word : ∀ {L : List (List UInt8)}, (∀ l ∈ L, isWord l = true) → isWord L.flatten = true
  | [], _ => rfl
  | l :: L, h => by
    rw [List.flatten_cons]
    exact isWord_app (h l (by simp)) (flat_word fun k hk => h k (List.mem_cons_of_mem _ hk))
theorem hang_word (fs : List NS) : isWord (hangL fs) = true := by
  refine flat_word fun l hl => ?_
  obtain ⟨d, hd, rfl⟩ := List.mem_map.1 hl
  exact comm_word (small_word fun c hc => (mem_strN.1 ((mem_dualS.1 (show d ∈ dualS fs from hd)).2.1 c hc)).1)
theorem hang_nails {n : Nat} {L : List (List UInt8)} (h : ∀ t ∈ L, fewB n t) : (strN (nailsOf (hangL (L.map marksOf)))).length ≤ n := by
  apply nails_few
  intro c hc
  unfold hangL at hc
  obtain ⟨l, hl, hcl⟩ := List.mem_flatten.1 hc
  obtain ⟨d, hd, rfl⟩ := List.mem_map.1 hl
  obtain ⟨e, he, h2⟩ := mem_comm hcl
  obtain ⟨h3, h4⟩ := (dual_few h d hd).2.1 e he
  rw [h2, nail_small h3]
  have := h3.1
  omega
theorem dual_len (fs : List NS) : (dualS fs).length ≤ 2 ^ (strN (unionN fs)).length := leastS_len _ _
theorem hang_short {L : List (List UInt8)} (h : ∀ t ∈ L, fewB 5 t) : (hangL (L.map marksOf)).length ≤ 30000 := by
  have h1 := flat_short (l := (dualS (L.map marksOf)).map commL) (n := 94) (by
    intro l hl
    obtain ⟨d, hd, rfl⟩ := List.mem_map.1 hl
    have h2 := (dual_few h d hd).2.2
    have h3 := commL_len d
    have h4 := Nat.pow_le_pow_right (show 2 > 0 by omega) h2
    omega)
  have h2 := dual_len (L.map marksOf)
  have h3 := Nat.pow_le_pow_right (show 2 > 0 by omega) (union_few h)
  rw [List.length_map] at h1
  have h4 : (dualS (L.map marksOf)).length * 94 ≤ 32 * 94 := Nat.mul_le_mul_right 94 (by omega)
  show ((dualS (L.map marksOf)).map commL).flatten.length ≤ 30000
  omega
theorem str_marks (L : List (List UInt8)) : (L.map strB).map markB = L.map marksOf := by rw [List.map_map]; rfl
theorem str_bts (L : List (List UInt8)) : (L.map strB).map bts = L := by
  rw [List.map_map]; conv => rhs; rw [← List.map_id L]
  rfl
end Go.Proofs.Ytjdmmgaddbleeaa
