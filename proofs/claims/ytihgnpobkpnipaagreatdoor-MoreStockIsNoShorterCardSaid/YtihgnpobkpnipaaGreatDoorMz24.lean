/- Texts of the proof of a law, put together, part 24 of 35. Conditions: none beyond those that each theorem names. -/
import Derived.Test.YtihgnpobkpnipaaGreatDoorMz16
import Derived.Test.YtihgnpobkpnipaaGreatDoorMz19
import Derived.Test.YtihgnpobkpnipaaGreatDoorMz20
import Derived.Test.YtihgnpobkpnipaaGreatDoorMz22
import Derived.Test.YtihgnpobkpnipaaGreatDoorMz23
import Derived.Deep.Upon
import Derived.Deep.Cut
import Derived.Deep.CutRange
namespace Go.Proofs.YtihgnpobkpnipaaGreatDoor
open Go.RowKit Go.Sort Go.Maps
theorem app_lit {α : Type} {T : Rty α} (hT : T.Ok) {w : World} {B g : Nat} (hB : B ≤ g) (y : α) {cs : Array Value} (hb : w.heap[g]? = some (.cells cs T.e (0, 0))) (hcs : cs.toList = T.f y) (xv : Value) (ys : List α) (hr : RecR T w 0 xv ys) (hl : ys.length ≤ 900000) (hBw : B ≤ w.heap.size) (ty : TypeId) :
    ∃ v' w', (Builtin.append_ #[T.S, T.S] ty #[.slice (some ⟨g, 0, none⟩) 1 1, xv]).run Tryz.prog w = .ok v' w' ∧ OwnR T w' B v' (y :: ys) ∧ Below w.heap.size w w' := by
  obtain ⟨i, hi, hz0, hz1, hz2⟩ := info_parts hT.info
  obtain ⟨a, cap, rfl, _, _⟩ := hr.form
  cases ys with
  | nil =>
    refine ⟨.slice (some ⟨g, 0, none⟩) 1 1, w, run_append_nothing w T.S T.S ty T.e i hT.sl hi _ 1 1 (Nat.le_refl _) _ ?_, own_one hT hB hb hcs, Below.refl _ _⟩
    cases a with
    | none => exact Src.ofNil w hT.sl cap
    | some q => exact Src.ofSlice w hT.sl q 0 cap [] (by simp) (by simp) (by simp)
  | cons z zs =>
    obtain ⟨b, o, rfl, _, _, _⟩ := hr.at hT.len (show (z :: zs)[0]? = some z from rfl) hT.pos
    have hold : ∀ j u, (T.f y)[j]? = some u → w.cell? ((⟨g, 0, none⟩ : Addr).add j) = some u := by
      intro j u hj
      rw [← hcs] at hj
      have : w.cell? ⟨g, j, none⟩ = some u := by rw [blk_cell hb]; simpa using hj
      by_cases h0 : j = 0
      · subst h0; simpa [Addr.add] using this
      · simpa [Addr.add, h0] using this
    obtain ⟨v', w', hrun, h1, h2⟩ := run_append_arg_grows (P := Tryz.prog) w T.S ty T.e i T.z T.k T.b hT.sl hi hz0 hz1 hz2 hT.zs hT.pos ⟨g, 0, none⟩ 1 1 (T.f y) (by rw [hT.len, Nat.one_mul]) hold ⟨b, o, none⟩ (z :: zs).length cap ((z :: zs).flatMap T.f) (flat_len hT.len (z :: zs)) (recs_cells hr) (by rw [List.length_cons]; omega) (by unfold maxLen; omega) (by have := Nat.mul_le_mul (show 1 + (z :: zs).length ≤ 1000000 by omega) hT.small; omega)
    refine ⟨v', w', hrun, ?_, Gr.below_none h2⟩
    refine OwnR.base (B := w.heap.size) ?_ hBw
    unfold OwnR
    rw [List.length_cons (a := y), Nat.add_comm, List.flatMap_cons]
    exact h1
theorem wp_app_lit {α : Type} {T : Rty α} (hT : T.Ok) {w : World} {ops : Array Oper} {rest : List Oper} {o : Oper} {a : Act} {Q : Exit → Act → World → Prop} (hgd : o.guard = none) (s x : Operand)
    (ho : o.op = .call { callee := .builtin .append, args := #[s, x], argTypes := #[T.S, T.S] }) (B g : Nat) (hB : B ≤ g) (y : α) (hs : a.eval s = .slice (some ⟨g, 0, none⟩) 1 1) {cs : Array Value} (hb : w.heap[g]? = some (.cells cs T.e (0, 0))) (hcs : cs.toList = T.f y)
    (xv : Value) (ys : List α) (hx : a.eval x = xv) (hr : RecR T w 0 xv ys) (hl : ys.length ≤ 900000) (hBw : B ≤ w.heap.size)
    (h : ∀ v' w', OwnR T w' B v' (y :: ys) → Below w.heap.size w w' → wpList Tryz.prog ops Q rest (a.put o.dst v') w') : wpList Tryz.prog ops Q (o :: rest) a w := by
  refine wpList_plain hgd fun K hK => ?_
  obtain ⟨v', w', hr, h2, h3⟩ := app_lit hT hB y hb hcs xv ys hr hl hBw o.type
  unfold Oper.wp execOp
  simp only [ho, resolve, invoke, builtin, Sem.run_bind, Sem.run_pure, Result.andThen_ok, List.map_toArray, List.map_cons, List.map_nil, hs, hx, hr]
  exact hK _ _ (h v' w' h2 h3)
theorem ByM.offM {β : Type} {T : Mty β} {m : Sm β} {w w' : World} {b B c : Nat} {F : Fds} (h : ByM w b B F) (hM : MapS T w c m) (hne : b ≠ c) (hg : w.grownBy w' (some c)) : ByM w' b B F :=
  ⟨h.map.kept hg (fun e => hne (by injection e)), h.rows.off (ownR_k TS B) hg (fun cur => hM.noCells cur _)⟩
theorem NextM.offM {β : Type} {T : Mty β} {m : Sm β} {w w' : World} {b B c : Nat} {l : List Alt} {F : Fds} (h : NextM w b B l F) (hM : MapS T w c m) (hne : b ≠ c) (hg : w.grownBy w' (some c)) : NextM w' b B l F :=
  ⟨h.by'.offM hM hne hg, h.row, h.ne, h.len⟩
end Go.Proofs.YtihgnpobkpnipaaGreatDoor
namespace Go.Proofs.YtihgnpobkpnipaaGreatDoor
open Go.RowKit Go.Sort Go.Maps
theorem nextL_len (l : List Alt) (p : Bs) : (nextL l p).length ≤ 2 * l.length := by
  unfold nextL
  rw [List.length_mergeSort, List.length_map]
  exact Nat.le_trans (List.length_filter_le _ _) (waysL_len l)
end Go.Proofs.YtihgnpobkpnipaaGreatDoor
namespace Go.Proofs.YtihgnpobkpnipaaGreatDoor
open Go.RowKit Go.Sort Go.Maps
/-- what is wrong with what Short is asked. -/
def shoF (ps : List Prt) (l : List Alt) (need hv : List Stk) : Int := if catsF ps l ≠ 0 then catsF ps l else if stksF ps need ≠ 0 then stksF ps need else stksF ps hv
/-- what Short has told. -/
def ShoR (l : List Alt) (need hv : List Stk) (B : Nat) (K : Int) (e : Ending) (w' : World) : Prop := ∃ v is out, e = .returned (.tuple #[v, .bool is, .int .i64 K]) ∧ OwnR TS w' B v (out.map baOf) ∧ (K = 0 → out = shortK l need hv ∧ is = decide (out.length = 0)) ∧ (K ≠ 0 → out = [] ∧ is = false)
theorem ShoR.no {l : List Alt} {need hv : List Stk} {B : Nat} {K : Int} {w' : World} (h : K ≠ 0) : ShoR l need hv B K (.returned (.tuple #[.slice none 0 0, .bool false, .int .i64 K])) w' := ⟨_, _, [], rfl, OwnR.nil _ _, fun e => absurd e h, fun _ => ⟨rfl, rfl⟩⟩
theorem ShoR.yes {l : List Alt} {need hv : List Stk} {B : Nat} {w' : World} {v : Value} {is : Bool} {out : List Bs} (h1 : OwnR TS w' B v (out.map baOf)) (h2 : out = shortK l need hv) (h3 : is = decide (out.length = 0)) : ShoR l need hv B 0 (.returned (.tuple #[v, .bool is, .int .i64 0])) w' := ⟨_, _, _, rfl, h1, fun _ => ⟨h2, h3⟩, fun e => absurd rfl e⟩
theorem needK_at {need : List Stk} (h : Srt (keysK need)) {x : Stk} (hx : x ∈ need) : needK need (bsOf x.1) = stkN x.2 := by unfold needK; rw [mapK_get h hx]; rfl
theorem next_size {ps : List Prt} {l : List Alt} (h : catsF ps l = 0) (hz : PrtZ ps) {p s : Bs} (hs : s ∈ nextL l p) : (baOf s).size ≤ maxLen := by rw [baOf_size]; exact keysP_size hz s (next_in h hs).2.1
set_option maxHeartbeats 16000000 in
set_option maxRecDepth 100000 in
theorem Short_any (ps : List Prt) (l : List Alt) (vp va : Value) (need hv : List Stk) (vn vh : Value) (w : World) (hl : ps.length ≤ 100000) (hl2 : l.length ≤ 100000) (hz : PrtZ ps) (hz2 : AltZ l) (hc : CatR w vp va ps l) (hn : need.length ≤ 1000) (hh : hv.length ≤ 1000) (rl : RecR TPa w 0 vn need) (rl2 : RecR TPa w 0 vh hv) (zn : StkZ need) (zh : StkZ hv) :
    Calls Tryz.prog 21 #[.agg #[vp, va], vn, vh] w fun e w' => ShoR l need hv w.heap.size (shoF ps l need hv) e w' ∧ Below w.heap.size w w' := by
  have HCC := Lib.hid fun W (hW : Below w.heap.size w W) => CheckCatalogue_any ps l vp va W (by omega) (by omega) hz hz2 (hc.low hW)
  have HA1 := Lib.hid fun (hs : SortP ps) W (hW : Below w.heap.size w W) => amounts_any ps l vp va need vn W hl hs (hc.low hW) hn (rl.below hW) zn
  have HA2 := Lib.hid fun (hs : SortP ps) W (hW : Below w.heap.size w W) => amounts_any ps l vp va hv vh W hl hs (hc.low hW) hh (rl2.below hW) zh
  have HBP := Lib.hid fun W (hW : Below w.heap.size w W) => byPart_any ps l vp va W hl2 hz2 (hc.low hW)
  obtain ⟨F0, hF0⟩ : ∃ q, q = catsF ps l := ⟨_, rfl⟩
  obtain ⟨F1, hF1⟩ : ∃ q, q = stksF ps need := ⟨_, rfl⟩
  obtain ⟨F2, hF2⟩ : ∃ q, q = stksF ps hv := ⟨_, rfl⟩
  obtain ⟨F, hF⟩ : ∃ q, q = shoF ps l need hv := ⟨_, rfl⟩
  have HFF : Hid (F = if F0 ≠ 0 then F0 else if F1 ≠ 0 then F1 else F2) := Lib.hid (by rw [hF, hF0, hF1, hF2]; rfl)
  rw [← hF0] at HCC
  rw [← hF1] at HA1
  rw [← hF2] at HA2
  rw [← hF]
  have HE0 := Lib.hid hF0
  have HE1 := Lib.hid hF1
  have HE2 := Lib.hid hF2
  obtain ⟨na, nc, rfl, _, _⟩ := rl.form
  obtain ⟨ha, hcp, rfl, _, _⟩ := rl2.form
  obtain ⟨pa, pc, rfl, _, _⟩ := hc.p.form
  obtain ⟨aa, ac, rfl, _, _⟩ := hc.a.form
  obtain ⟨w1, hw1⟩ : ∃ w1, w1 = w.alloc (.cells #[.slice pa ps.length pc, .slice aa l.length ac] 29) := ⟨_, rfl⟩
  have hA1 : Below w.heap.size w w1 := by rw [hw1]; exact Bl.alloc (Below.refl _ _) _
  have hx0 : w1.heap[w.heap.size]? = some (.cells #[.slice pa ps.length pc, .slice aa l.length ac] 29 (0, 0)) := by rw [hw1]; exact blk_new w _
  have HXC := Lib.hid (show ∀ W, Below w1.heap.size w1 W → W.cell? ⟨w.heap.size, 0, none⟩ = some (.slice pa ps.length pc) ∧ W.cell? ⟨w.heap.size, 1, none⟩ = some (.slice aa l.length ac) ∧ w.heap.size < W.heap.size from fun W hW => ⟨blk_cell (blk_below hx0 hW) 0, blk_cell (blk_below hx0 hW) 1, blk_lt (blk_below hx0 hW)⟩)
  have HW1 := Lib.hid hw1
  have HB1 := Lib.hid hA1
  have RL := Lib.hid rl
  have ZN := Lib.hid zn
  have HZP := Lib.hid hz
  obtain ⟨nn, hnn⟩ : ∃ q, q = need.length := ⟨_, rfl⟩
  have HNN := Lib.hid hnn
  rw [← hnn] at hn RL HA1
  rw [← hnn]
  obtain ⟨q0, q1, lC⟩ := HXC.out w1 (Below.refl _ _)
  clear hc rl rl2 zn zh hz hz2 hF hF0 hF1 hF2 hw1 hA1 hx0 hnn
  go_enter Tryz.func21, Tryz.ntmps21
  go_wp2_with fail
  rw [← HW1.out]
  refine (HCC.out w1 HB1.out).mono ?_
  rintro e w2 ⟨rfl, hb2⟩
  have HC2 := Lib.hid hb2
  have HB2 := Lib.hid (Bl.trans HB1.out hb2)
  clear hb2 q0 q1 lC HCC
  by_cases h0 : F0 = 0
  case neg =>
    have HR : Hid (F = F0) := Lib.hid (by rw [HFF.out, if_pos h0])
    have h0' : (F0 != 0) = true := by simpa using h0
    go_wp2
    go_ret3
    refine ⟨?_, HB2.out⟩
    rw [HR.out]
    exact ShoR.no h0
  have HC0 : Hid (catsF ps l = 0) := Lib.hid (HE0.out.symm.trans h0)
  have HSP : Hid (SortP ps) := Lib.hid ((prtsF1_sorted ps none (catsF_ok HC0.out).2.1).2)
  have HF2 : Hid (F = if F1 ≠ 0 then F1 else F2) := Lib.hid (by rw [HFF.out, if_neg (by simp [h0])])
  subst h0
  obtain ⟨q0, q1, lC⟩ := HXC.out w2 HC2.out
  clear HFF
  go_wp2_with fail
  refine (HA1.out HSP.out w2 HB2.out).mono ?_
  rintro e w3 ⟨⟨v3, rfl, hm3⟩, hb3⟩
  have HC3 := Lib.hid (Bl.trans HC2.out hb3)
  have HB3 := Lib.hid (Bl.trans HB2.out hb3)
  have HM3 := Lib.hid hm3
  clear hb3 q0 q1 lC hm3
  by_cases h1 : F1 = 0
  case neg =>
    have HR : Hid (F = F1) := Lib.hid (by rw [HF2.out, if_pos h1])
    have h1' : (F1 != 0) = true := by simpa using h1
    go_wp2
    go_ret3
    refine ⟨?_, HB3.out⟩
    rw [HR.out]
    exact ShoR.no h1
  have HK1 := Lib.hid (stksF_ok (HE1.out.symm.trans h1))
  have HF3 : Hid (F = F2) := Lib.hid (by rw [HF2.out, if_neg (by simp [h1])])
  obtain ⟨nb, rfl, hnb, hMN⟩ := HM3.out h1
  have hnlt := hMN.lt
  have HMN := Lib.hid hMN
  subst h1
  obtain ⟨q0, q1, lC⟩ := HXC.out w3 HC3.out
  clear HF2 HM3 hMN hnb
  go_wp2_with fail
  refine (HA2.out HSP.out w3 HB3.out).mono ?_
  rintro e w4 ⟨⟨v4, rfl, hm4⟩, hb4⟩
  have HC4 := Lib.hid (Bl.trans HC3.out hb4)
  have HB4 := Lib.hid (Bl.trans HB3.out hb4)
  have HM4 := Lib.hid hm4
  have HMN4 := Lib.hid (HMN.out.below hb4)
  clear hb4 q0 q1 lC hm4 HMN
  by_cases h2 : F2 = 0
  case neg =>
    have HR : Hid (F = F2) := Lib.hid HF3.out
    have h2' : (F2 != 0) = true := by simpa using h2
    go_wp2
    go_ret3
    refine ⟨?_, HB4.out⟩
    rw [HR.out]
    exact ShoR.no h2
  have HK2 := Lib.hid (stksF_ok (HE2.out.symm.trans h2))
  have HF0 : Hid (F = 0) := Lib.hid (HF3.out.trans h2)
  obtain ⟨lb, rfl, hlb, hML⟩ := HM4.out h2
  have hne : nb ≠ lb := by omega
  have hzl : w.heap.size ≤ lb := Nat.le_trans HB3.out.size hlb
  have HML := Lib.hid hML
  subst h2
  obtain ⟨q0, q1, lC⟩ := HXC.out w4 HC4.out
  have HBY := Lib.hid (HBP.out w4 HB4.out)
  clear HF3 HM4 hML hlb hnlt HA1 HA2 HBP
  go_wp2_with fail
  refine HBY.out.mono ?_
  rintro e w5 ⟨⟨bb, FF, rfl, hbb, hNX⟩, hb5⟩
  have hbl : bb ≠ lb := by have := HML.out.lt; omega
  have HML5 := Lib.hid (HML.out.below hb5)
  have HMN5 := Lib.hid (HMN4.out.below hb5)
  have HB5 := Lib.hid (Bl.trans HB4.out hb5)
  have hl5 := HML5.out.lt
  have HGW : Hid (∀ W, w5.grownBy W (some lb) → Below w.heap.size w W) := Lib.hid fun W hW => Below.trans HB5.out (Gr.below hW hzl HB5.out.size)
  have HNX : Hid (∀ W, w5.grownBy W (some lb) → ByG W bb (nextL l)) := Lib.hid fun W hW => (hNX.offM HML5.out hbl hW).byG
  have HND : Hid (∀ W, w5.grownBy W (some lb) → MapS TMi W nb (mapK need)) := Lib.hid fun W hW => HMN5.out.kept hW fun e => hne (by injection e)
  have HS0 : Hid (ShI l (needK need) (mapK hv) (keysK need) 0 (mapK hv) []) := Lib.hid (ShI.start (mapK_bd fun x hx => (HK2.out.2 x hx).2))
  have HL0 : Hid ((mapK hv).length ≤ 1000) := Lib.hid (by have := mapK_len hv; omega)
  clear HML HMN4 HBY hNX hb5 q0 q1 lC hbb hbl hne
  go_wp2_with fail
  go_loopw [14, 48] (fun ov i wr => ∃ (k : Nat) (out : List Bs) (M : Sm Int), k ≤ nn ∧ i = .int .i64 k ∧ Hid (ShI l (needK need) (mapK hv) (keysK need) k M out) ∧ Hid (M.length ≤ 1000 + 300000 * k) ∧ Hid (MapS TMi wr lb M) ∧ Hid (OwnR TS wr w5.heap.size ov (out.map baOf)) ∧ Hid (w5.grownBy wr (some lb))) (fun _ i _ => nn - (intOf i).toNat)
  case atStart => exact ⟨0, [], mapK hv, Nat.zero_le _, rfl, HS0, Lib.hid (by have := HL0.out; omega), HML5, Lib.hid (OwnR.nil _ _), Lib.hid (Gr.refl _ _)⟩
  case round =>
    obtain ⟨k, out, M, hk, rfl, HSI, HLM, HM, HO, HG⟩ := hrel
    obtain ⟨oa, oc, hov, _, _⟩ := HO.out.form
    obtain ⟨on, hon⟩ : ∃ on, on = out.length := ⟨_, rfl⟩
    rw [List.length_map, ← hon] at hov
    subst hov
    have HON := Lib.hid hon
    have honk : on ≤ k := by rw [hon]; exact HSI.out.len
    clear hon
    by_cases hlt : k < nn
    case neg =>
      obtain rfl : k = nn := by omega
      have HE : Hid (out = shortK l need hv) := Lib.hid (HSI.out.stop (by unfold keysK; rw [List.length_map, ← HNN.out]; exact Nat.le_refl _))
      have HBE := Lib.hid (HGW.out wr HG.out)
      have HOE := Lib.hid (HO.out.base HB5.out.size)
      by_cases hz0 : on = 0
      · have hz0' : (on : Int) = 0 := by omega
        have HIS : Hid (true = decide (out.length = 0)) := Lib.hid (by rw [← HON.out, hz0]; rfl)
        subst hz0
        go_wp2
        go_ret3
        refine ⟨?_, HBE.out⟩
        rw [HF0.out]
        exact ShoR.yes HOE.out HE.out HIS.out
      · have hz0' : ¬ (on : Int) = 0 := by omega
        have hz1 : ((on : Int) == 0) = false := by simpa using hz0
        have HIS : Hid (false = decide (out.length = 0)) := Lib.hid (by rw [← HON.out, decide_eq_false hz0])
        go_wp2
        go_ret3
        refine ⟨?_, HBE.out⟩
        rw [HF0.out]
        exact ShoR.yes HOE.out HE.out HIS.out
    obtain ⟨x, hx⟩ : ∃ x, need[k]? = some x := ⟨_, List.getElem?_eq_getElem (by rw [← HNN.out]; exact hlt)⟩
    have hxm := List.mem_of_getElem? hx
    have HKK : Hid ((keysK need)[k]? = some (bsOf x.1)) := Lib.hid (by unfold keysK; rw [List.getElem?_map, hx]; rfl)
    obtain ⟨z1, _⟩ := ZN.out x hxm
    have HNV := Lib.hid (needK_at HK1.out.1 hxm)
    have HSG := Lib.hid (stkG_is (HK1.out.2 x hxm).2)
    obtain ⟨b1, o1, rfl, _, hb1, hc1⟩ := (RL.out.below (HGW.out wr HG.out)).at TPa.ok.len hx TPa.ok.pos
    obtain ⟨ky, pt⟩ := x
    have c0 : wr.cell? ⟨b1, o1 + k * 2, none⟩ = some (.string ky) := hc1 0 _ rfl
    have c1 : wr.cell? ⟨b1, o1 + k * 2 + 1, none⟩ = some (.string pt) := hc1 1 _ rfl
    have HKZ : Hid (ky.size ≤ maxLen) := Lib.hid (by have : ky.size ≤ 1000000 := z1; unfold maxLen; omega)
    obtain ⟨n0, hn0⟩ : ∃ q, q = stkN pt := ⟨_, rfl⟩
    have HNV : Hid (needK need (bsOf ky) = n0) := Lib.hid (HNV.out.trans hn0.symm)
    have HNB : Hid (0 ≤ n0 ∧ n0 ≤ 1000000) := Lib.hid (by rw [hn0]; exact HSG.out.2)
    obtain ⟨P, hP⟩ : ∃ P, P = wr.heap.size := ⟨_, rfl⟩
    obtain ⟨w6, hw6⟩ : ∃ w6, w6 = wr.alloc (.cells #[.string ky, .string pt] 50) := ⟨_, rfl⟩
    have hb6 : Below wr.heap.size wr w6 := by rw [hw6]; exact Bl.alloc (Below.refl _ _) _
    have hx6 : w6.heap[P]? = some (.cells #[.string ky, .string pt] 50 (0, 0)) := by rw [hw6, hP]; exact blk_new wr _
    have HG6 := Lib.hid (Gr.trans HG.out (Gr.of_below hb6 (some lb)))
    have HM6 := Lib.hid (HM.out.below hb6)
    have HO6 := Lib.hid (HO.out.below hb6)
    have hPl : w5.heap.size ≤ P := by rw [hP]; exact HG.out.size
    have HXP : Hid (∀ W, w6.grownBy W (some lb) → W.cell? ⟨P, 0, none⟩ = some (.string ky)) := Lib.hid fun W hW => by
      have h := (hW.block P (blk_lt hx6) (by intro e; injection e with e; omega)).trans hx6
      exact blk_cell h 0
    have hlk := (HND.out w6 HG6.out).look TMi.ok ky HKZ.out
    have hlk2 : (Instr.lookup 126 (.map (some nb)) (.string ky) false).run Tryz.prog w6 = .ok (.int .i64 n0) w6 := by rw [← HNV.out]; exact hlk
    obtain ⟨rv, hrv⟩ := (HNX.out w6 HG6.out).look ky HKZ.out
    have d0 := HXP.out w6 (Gr.refl _ _)
    have HRV := Lib.hid hrv
    have HWX := Lib.hid (And.intro hP hw6)
    have HZW : Hid (w5.heap.size ≤ w6.heap.size) := Lib.hid HG6.out.size
    have hadd : IntKind.i64.wrap ((k : Int) + 1) = ((k + 1 : Nat) : Int) := by rw [IntWalk.i64_in _ (by omega)]; omega
    have hlv7 := (hrv (w6.alloc (.cells #[.string ky] 9)) (Bl.alloc (Below.refl _ _) _)).1
    have lP : P < w6.heap.size := blk_lt hx6
    have d7 : (w6.alloc (.cells #[.string ky] 9)).cell? ⟨P, 0, none⟩ = some (.string ky) := HXP.out _ (Gr.alloc (Gr.refl _ _) _)
    have HTS : Hid (OwnR TS (w6.alloc (.cells #[.string ky] 9)) w5.heap.size (.slice (some ⟨w6.heap.size, 0, none⟩) 1 1) [ky]) := Lib.hid (own_one TS.ok HZW.out (blk_new w6 _) rfl)
    clear hx hxm hc1 hn0 hP hw6 hb6 hx6 hlk hrv z1 HNX
    go_upto_region 15 with fail
    rw [← HWX.out.2, ← HWX.out.1]
    clear c0 c1
    go_wp2_with (at_builtin; refine wp_app_lit TS.ok rfl _ _ rfl w5.heap.size w6.heap.size HZW.out ky rfl (blk_new w6 _) rfl rv ((nextL l (bsOf ky)).map baOf) rfl (HRV.out _ (Bl.alloc (Below.refl _ _) _)).2 (by rw [List.length_map]; have := nextL_len l (bsOf ky); omega) (by have := HZW.out; simp; omega) ?_)
    intro v7 w7 hO7 hb7
    obtain ⟨L2, hL2⟩ : ∃ q, q = bsOf ky :: nextL l (bsOf ky) := ⟨_, rfl⟩
    rw [show ky :: (nextL l (bsOf ky)).map baOf = L2.map baOf from by rw [hL2, List.map_cons, baOf_bs]] at hO7
    have hb67 : Below w6.heap.size w6 w7 := Bl.trans (Bl.alloc (Below.refl _ _) (.cells #[.string ky] 9)) (by simpa using hb7)
    have HG7 := Lib.hid (Gr.trans HG6.out (Gr.of_below hb67 (some lb)))
    have HM7 := Lib.hid (HM6.out.below hb67)
    have HO7 := Lib.hid (HO6.out.below hb67)
    have HE7 : Hid (∀ W, w7.grownBy W (some lb) → OwnR TS W w5.heap.size v7 (L2.map baOf)) := Lib.hid fun W hW => ownR_offM hO7 HM7.out hW
    have HQ7 : Hid (∀ W, w7.grownBy W (some lb) → OwnR TS W w5.heap.size (.slice oa on oc) (out.map baOf)) := Lib.hid fun W hW => ownR_offM HO7.out HM7.out hW
    have HXQ : Hid (∀ W, w7.grownBy W (some lb) → W.cell? ⟨P, 0, none⟩ = some (.string ky) ∧ P < W.heap.size) := Lib.hid fun W hW => ⟨HXP.out W (Gr.trans (Gr.of_below hb67 (some lb)) hW), Nat.lt_of_lt_of_le lP (Nat.le_trans hb67.size hW.size)⟩
    obtain ⟨ea, ec, hev, _, _⟩ := hO7.form
    obtain ⟨en, hen⟩ : ∃ en, en = L2.length := ⟨_, rfl⟩
    rw [List.length_map, ← hen] at hev
    subst hev
    have henl : en ≤ 200001 := by rw [hen, hL2, List.length_cons]; have := nextL_len l (bsOf ky); omega
    have HEN := Lib.hid hen
    have HL2 := Lib.hid hL2
    have HSZ : Hid (∀ s ∈ L2, (baOf s).size ≤ maxLen) := Lib.hid fun s hs => by
      rw [hL2] at hs
      rcases List.mem_cons.1 hs with rfl | hs
      · rw [baOf_bs]; exact HKZ.out
      · exact next_size HC0.out HZP.out hs
    have HT0 := Lib.hid (TkI.start (L := L2) HSI.out.bd HNB.out.1)
    have HZ7 : Hid (w5.heap.size ≤ w7.heap.size) := Lib.hid HG7.out.size
    clear hO7 hb7 hb67 hen hL2 d0 d7 hlk2 hlv7 HTS lP HM6 HO6 HG6
    go_wp2_with fail
    go_loopw [17, 65] (fun nv i wr => ∃ (j : Nat) (n : Int) (N : Sm Int), j ≤ en ∧ i = .int .i64 j ∧ nv = .int .i64 n ∧ Hid (TkI n0 M L2 j n N) ∧ Hid (MapS TMi wr lb N) ∧ Hid (w7.grownBy wr (some lb))) (fun _ i _ => en - (intOf i).toNat)
    case atStart => exact ⟨0, n0, M, Nat.zero_le _, rfl, rfl, HT0, HM7, Lib.hid (Gr.refl _ _)⟩
    case round =>
      obtain ⟨j, n, N, hj, rfl, rfl, HTK, HMN2, HG2⟩ := hrel
      by_cases hlt2 : j < en
      · obtain ⟨s, hs⟩ : ∃ s, L2[j]? = some s := ⟨_, List.getElem?_eq_getElem (by rw [← HEN.out]; exact hlt2)⟩
        obtain ⟨b5, o5, rfl, _, _, c5⟩ := str_at (HE7.out wr HG2.out).rec0 (show (L2.map baOf)[j]? = some (baOf s) by rw [List.getElem?_map, hs]; rfl)
        have HSS : Hid ((baOf s).size ≤ maxLen) := Lib.hid (HSZ.out s (List.mem_of_getElem? hs))
        have hlv := HMN2.out.look TMi.ok (baOf s) HSS.out
        rw [show (baOf s).data.toList = s from bsOf_baOf s] at hlv
        obtain ⟨v, hv'⟩ : ∃ q, q = (N.get s).getD 0 := ⟨_, rfl⟩
        have hlv2 : (Instr.lookup 126 (.map (some lb)) (.string (baOf s)) false).run Tryz.prog wr = .ok (.int .i64 v) wr := by rw [hv']; exact hlv
        obtain ⟨tk, htk⟩ : ∃ q, q = min n v := ⟨_, rfl⟩
        have hstep := HTK.out.step hs hv'
        rw [← htk] at hstep
        have hbd := HTK.out.bd s
        rw [← hv'] at hbd
        have hps := HTK.out.pos
        have hnb := HNB.out
        have HSTP := Lib.hid hstep
        have HNL : Hid (N.length < maxLen) := Lib.hid (by have h1 := HTK.out.len; have h2 := HLM.out; unfold maxLen; omega)
        obtain ⟨w8, hr8, hM8, ht8⟩ := HMN2.out.put TMi.ok (baOf s) HSS.out (v - tk) HNL.out
        rw [show (baOf s).data.toList = s from bsOf_baOf s] at hM8
        have hr8' : (Instr.mapUpdate 126 (.map (some lb)) (.string (baOf s)) (.int .i64 (v - tk))).run Tryz.prog wr = .ok () w8 := hr8
        have HF8 := Lib.hid (And.intro hM8 (Gr.trans HG2.out ht8.grown))
        have hmin1 : (if v < n then v else n) = tk := by rw [htk]; split <;> omega
        have hmin2 : min n v = tk := htk.symm
        have hw1 : IntKind.i64.wrap (v - tk) = v - tk := IntWalk.i64_in _ (by omega)
        have hw2 : IntKind.i64.wrap (n - tk) = n - tk := IntWalk.i64_in _ (by omega)
        have hadd2 : IntKind.i64.wrap ((j : Int) + 1) = ((j + 1 : Nat) : Int) := by rw [IntWalk.i64_in _ (by omega)]; omega
        have j2 : (j : Int) < (en : Int) := by omega
        clear hs hlv hv' htk hstep hbd hps hnb hr8 hM8 ht8
        go_wp2
        go_roundw
        case rel => exact ⟨j + 1, n - tk, _, by omega, by go_num, rfl, HSTP, Lib.hid HF8.out.1, Lib.hid HF8.out.2⟩
        case measure => simp [intOf]; omega
      · obtain rfl : j = en := by omega
        have hst := HTK.out.stop (by rw [← HEN.out]; exact Nat.le_refl _)
        have hsh := HSI.out.step HKK.out (by rw [HNV.out]; exact HNB.out.1)
        rw [HNV.out, ← HL2.out, hst] at hsh
        have HSH := Lib.hid hsh
        have HLN : Hid (N.length ≤ 1000 + 300000 * (k + 1)) := Lib.hid (by have h1 := HTK.out.len; have h2 := HLM.out; omega)
        have HGR := Lib.hid (Gr.trans HG7.out HG2.out)
        have HQR := Lib.hid (HQ7.out wr HG2.out)
        obtain ⟨d9, lP9⟩ := HXQ.out wr HG2.out
        have HZR : Hid (w5.heap.size ≤ wr.heap.size) := Lib.hid HGR.out.size
        clear hst hsh
        by_cases hn : 0 < n
        · have HSH2 : Hid (ShI l (needK need) (mapK hv) (keysK need) (k + 1) N (out ++ [bsOf ky])) := Lib.hid (by have := HSH.out; rw [if_pos hn] at this; exact this)
          have HOL : Hid ((out.map baOf).length ≤ 1000000) := Lib.hid (by rw [List.length_map, ← HON.out]; omega)
          clear HSH
          go_wp2_with (at_builtin; refine wp_app_r TS.ok rfl _ _ rfl w5.heap.size _ (out.map baOf) rfl (HQR.out.alloc _) wr.heap.size 1 ky rfl (blk_new wr _) rfl HOL.out (by have := HZR.out; simp; omega) ?_)
          intro v9 w9 hO9 hg9 _
          rw [show out.map baOf ++ [ky] = (out ++ [bsOf ky]).map baOf from by rw [List.map_append, List.map_cons, List.map_nil, baOf_bs]] at hO9
          have HO9 := Lib.hid hO9
          have HM9 : Hid (MapS TMi w9 lb N) := Lib.hid (map_off (HMN2.out.alloc (.cells #[.string ky] 9)) (HQR.out.alloc _) hg9)
          have HG9 : Hid (w5.grownBy w9 (some lb)) := Lib.hid (Gr.appR (Gr.alloc HGR.out (.cells #[.string ky] 9)) (HQR.out.alloc _) hg9 (Nat.le_refl _))
          clear hO9 hg9 d9 lP9
          go_wp2
          go_roundw
          case rel => exact ⟨k + 1, _, N, by omega, by go_num, HSH2, HLN, HM9, HO9, HG9⟩
          case measure => simp [intOf]; omega
        · have HSH2 : Hid (ShI l (needK need) (mapK hv) (keysK need) (k + 1) N out) := Lib.hid (by have := HSH.out; rw [if_neg hn, List.append_nil] at this; exact this)
          clear HSH
          go_wp2
          go_roundw
          case rel => exact ⟨k + 1, out, N, by omega, by go_num, HSH2, HLN, HMN2, HQR, HGR⟩
          case measure => simp [intOf]; omega
end Go.Proofs.YtihgnpobkpnipaaGreatDoor
