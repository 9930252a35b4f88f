/- The contract of the reference's Number. Conditions: what lies in the library (TxW); strings of at most 10^6 bytes; at most 15 digits. · The closure of the reference's PointsRead: one line, one point. Conditions: what lies in the library (TxW), below the closure's box; lines of at most 10^6 bytes. · The reference's Lines over the closure of PointsRead. Conditions: what lies in the library (TxW), below the box of the closure; texts of at most 200000 bytes. · The reference's PointsRead. Conditions: what lies in the library (TxW); texts of at most 10^6 bytes. -/
import Derived.Test.YtgcmlhpocbgkaaaGreatDoorTcl
import Derived.Test.YtgcmlhpocbgkaaaGreatDoorSpan
import Derived.Deep.RegionLaw
import Derived.Test.YtgcmlhpocbgkaaaGreatDoorFault
namespace Go.Proofs.YtgcmlhpocbgkaaaGreatDoor
open Go.RowKit Go.Sort

def valT (l : List UInt8) : Int := if (unsign l).2 = true then -(decV 0 (unsign l).1 : Int) else decV 0 (unsign l).1
theorem numT_key {most : Nat} {l : List UInt8} (h0 : (unsign l).1 ≠ []) (h1 : (unsign l).1.length ≤ most) (h2 : ∀ b ∈ (unsign l).1, isDig b = true) :
    (numT most l = some (valT l) ∧ Lib.itoa (valT l) = l) ∨ (numT most l = none ∧ Lib.itoa (valT l) ≠ l) := by
  by_cases h3 : (unsign l).1.head? = some 48 ∧ (1 < (unsign l).1.length ∨ (unsign l).2 = true)
  · have hn : numT most l = none := numT_none fun h => h.2.2.2 h3
    refine .inr ⟨hn, fun e => ?_⟩
    have hd : Lib.decDigits (valT l).natAbs = (unsign l).1 := by
      have := itoa_unsign (valT l)
      rw [e] at this
      rw [this]
    have := numT_itoa (most := most) (n := valT l) (by rw [hd]; exact h1)
    rw [e, hn] at this
    cases this
  · have hn := numT_some ⟨h0, h1, h2, h3⟩
    exact .inl ⟨hn, (itoa_numT hn).1⟩
theorem numT_bad {most : Nat} {l : List UInt8} (h : ¬((unsign l).1 ≠ [] ∧ (unsign l).1.length ≤ most ∧ ∀ b ∈ (unsign l).1, isDig b = true)) : numT most l = none := numT_none fun k => h ⟨k.1, k.2.1, k.2.2.1⟩
theorem atoi_val {l : List UInt8} (h0 : (unsign l).1 ≠ []) (h2 : ∀ b ∈ (unsign l).1, isDig b = true) : Lib.atoi l = some (valT l) := by
  unfold valT unsign at *
  cases l with
  | nil => exact absurd rfl h0
  | cons b r =>
    simp only at h0 h2 ⊢
    by_cases hb : b = 45
    · subst hb
      cases r with
      | nil => exact absurd (by simp) h0
      | cons c r =>
        have h3 : ∀ b ∈ c :: r, isDig b = true := by simpa using h2
        clear h0 h2
        simp only [Lib.atoi, Lib.decNat]
        rw [decFrom_decV _ _ h3]
        simp
    · simp only [if_neg hb] at h0 h2 ⊢
      rw [atoi_dig h0 h2]
      simp
theorem trimMinus_any (s : ByteArray) (w : World) : Calls Tryz.prog 190 #[.string s, .string ⟨#[45]⟩] w fun e w' => e = .returned (.string ⟨(unsign s.data.toList).1.toArray⟩) ∧ w = w' := by
  have h1 : Lib.trimPrefix s.data.toList [45] = (unsign s.data.toList).1 := by
    unfold Lib.trimPrefix Lib.hasPrefix unsign
    cases s.data.toList with
    | nil => simp
    | cons b r =>
      by_cases hb : b = 45
      · subst hb; simp
      · have : ¬ (45 : UInt8) = b := fun e => hb e.symm
        simp [hb, this, List.isPrefixOf]
  refine (Tryz.strings_TrimPrefix s ⟨#[45]⟩ w).mono ?_
  rintro e w' ⟨rfl, rfl⟩
  exact ⟨by rw [show (⟨#[45]⟩ : ByteArray).data.toList = [45] from rfl, h1], rfl⟩
set_option maxHeartbeats 4000000 in
set_option maxRecDepth 100000 in
theorem RNumber_any (s : ByteArray) (most : Nat) (w : World) (hT : TxW w) (hs : s.size ≤ 1000000) (hm : most ≤ 15) :
    Calls Tryz.prog 145 #[.string s, .int .i64 most] w fun e w' => ∃ n : Int, e = .returned (.tuple #[.int .i64 n, .bool (numT most s.data.toList).isSome]) ∧ (∀ q, numT most s.data.toList = some q → q = n) ∧ Below w.heap.size w w' := by
  have HC := Lib.hid (fun W => trimMinus_any s W)
  have HI := Lib.hid fun (n : Int) (W : World) => in_any n 1 most W
  obtain ⟨d, hd⟩ : ∃ d, d = (unsign s.data.toList).1 := ⟨_, rfl⟩
  obtain ⟨ds, hds⟩ : ∃ ds : ByteArray, ds = ⟨d.toArray⟩ := ⟨_, rfl⟩
  have hdd : ds.data.toList = d := by rw [hds]
  have hsz : ds.size = d.length := by rw [← hdd]; exact (Array.length_toList).symm
  have hss : s.data.toList.length = s.size := Array.length_toList
  have hdl : d.length ≤ s.size ∧ s.size ≤ d.length + 1 := by
    rw [hd, ← hss]
    unfold unsign
    cases s.data.toList with
    | nil => simp
    | cons b r =>
      simp only
      by_cases hb : b = 45
      · rw [if_pos hb]; simp
      · rw [if_neg hb]; simp
  rw [← hd, ← hds] at HC
  by_cases h01 : d ≠ [] ∧ d.length ≤ most
  · obtain ⟨h0, h1⟩ := h01
    have hlen1 : 1 ≤ d.length := List.length_pos_iff.2 h0
    have hin : inB 1 (ds.size : Int) most = true := inB_true (by omega) (by omega)
    have HI1 := Lib.hid fun W => HI.out (ds.size : Int) W
    rw [hin] at HI1
    have HTR := Lib.hid (fun W => trimD_any ds W (by omega))
    have htn := trimD_nil ds.data.toList
    by_cases hall : ∀ b ∈ d, isDig b = true
    · rw [htn.2 (by rw [hdd]; exact hall)] at HTR
      have hkey := numT_key (most := most) (by rw [← hd]; exact h0) (by rw [← hd]; exact h1) (by rw [← hd]; exact hall)
      have hat := atoi_val (by rw [← hd]; exact h0) (by rw [← hd]; exact hall)
      have hlt := decV_lt d 0 hall
      have hp15 : 10 ^ d.length ≤ 10 ^ 15 := Nat.pow_le_pow_right (by omega) (by omega)
      have hv : decV 0 d < 1000000000000000 := by
        have : (10 : Nat) ^ 15 = 1000000000000000 := rfl
        omega
      have hvt : -1000000000000000 < valT s.data.toList ∧ valT s.data.toList < 1000000000000000 := by
        unfold valT
        rw [← hd]
        split <;> omega
      have HAT := Lib.hid (fun W => Atoi_any s (valT s.data.toList) W (by omega) hat)
      have HIT := Lib.hid (fun (W : World) (hW : TxW W) => Itoa_any (valT s.data.toList) W hW (by omega) (by omega))
      obtain ⟨it, hit⟩ : ∃ it : ByteArray, it = ⟨(Lib.itoa (valT s.data.toList)).toArray⟩ := ⟨_, rfl⟩
      rw [← hit] at HIT
      have hcmp : (it = s ∧ numT most s.data.toList = some (valT s.data.toList)) ∨ (it ≠ s ∧ numT most s.data.toList = none) := by
        rcases hkey with ⟨a, b⟩ | ⟨a, b⟩
        · refine .inl ⟨?_, a⟩
          rw [hit, b]
        · refine .inr ⟨fun e => b ?_, a⟩
          have e2 := congrArg (fun x : ByteArray => x.data.toList) (hit.symm.trans e)
          exact e2
      have HTX := Lib.hid hT
      have HHD := Lib.hid hd
      clear hkey hat hlt hp15 htn hall hds hdd hsz hss hit hT hvt hv hd
      generalize valT s.data.toList = va at *
      generalize numT most s.data.toList = r at *
      rcases hcmp with ⟨rfl, hr⟩ | ⟨hne, hr⟩
      · have HR := Lib.hid hr
        clear hr
        go_enter Tryz.func145, Tryz.ntmps145
        go_wp2_with fail
        refine (HC.out _).mono ?_
        rintro e w' ⟨rfl, rfl⟩
        go_wp2_with fail
        refine (HI1.out _).mono ?_
        rintro e w' ⟨rfl, rfl⟩
        go_wp2_with fail
        refine (HTR.out _).mono ?_
        rintro e w1 ⟨rfl, hb1⟩
        go_wp2_with fail
        refine (HAT.out _).mono ?_
        rintro e w2 ⟨rfl, hb2⟩
        go_wp2_with fail
        refine (HIT.out _ (HTX.out.below (Bl.trans hb1 hb2))).mono ?_
        rintro e w3 ⟨rfl, hb3⟩
        go_wp2
        go_ret2
        exact ⟨va, by rw [HR.out] <;> rfl, fun q hq => by rw [HR.out] at hq; injection hq with hq; exact hq.symm, Bl.trans (Bl.trans hb1 hb2) hb3⟩
      · have HR := Lib.hid hr
        have hne2 : (it.toList == s.toList) = false := by
          rw [beq_eq_false_iff_ne, ByteArray.toList_eq, ByteArray.toList_eq]
          exact fun e => hne (ByteArray.ext (Array.toList_inj.1 e))
        have hne3 : ¬ it.toList = s.toList := by
          rw [ByteArray.toList_eq, ByteArray.toList_eq]
          exact fun e => hne (ByteArray.ext (Array.toList_inj.1 e))
        clear hr
        go_enter Tryz.func145, Tryz.ntmps145
        go_wp2_with fail
        refine (HC.out _).mono ?_
        rintro e w' ⟨rfl, rfl⟩
        go_wp2_with fail
        refine (HI1.out _).mono ?_
        rintro e w' ⟨rfl, rfl⟩
        go_wp2_with fail
        refine (HTR.out _).mono ?_
        rintro e w1 ⟨rfl, hb1⟩
        go_wp2_with fail
        refine (HAT.out _).mono ?_
        rintro e w2 ⟨rfl, hb2⟩
        go_wp2_with fail
        refine (HIT.out _ (HTX.out.below (Bl.trans hb1 hb2))).mono ?_
        rintro e w3 ⟨rfl, hb3⟩
        go_wp2
        go_ret2
        exact ⟨va, by rw [HR.out] <;> rfl, fun q hq => (by rw [HR.out] at hq; cases hq), Bl.trans (Bl.trans hb1 hb2) hb3⟩
    · have HR : Hid (numT most s.data.toList = none) := Lib.hid (numT_bad (by rw [← hd]; exact fun h => hall h.2.2))
      obtain ⟨b, m, hbm⟩ : ∃ b m, Lib.trimS ds.data.toList digL = b :: m := by
        cases h : Lib.trimS ds.data.toList digL with
        | nil => exact absurd (by rw [← hdd]; exact htn.1 h) hall
        | cons b m => exact ⟨b, m, rfl⟩
      rw [hbm] at HTR
      have f1 : (⟨(b :: m).toArray⟩ : ByteArray).toList.isEmpty = false := by rw [ba_list]; rfl
      have f2 : ¬ (⟨(b :: m).toArray⟩ : ByteArray).toList = [] := by rw [ba_list]; simp
      have f3 : (⟨(b :: m).toArray⟩ : ByteArray) ≠ ⟨#[]⟩ := fun e => by
        have := congrArg (fun x : ByteArray => x.data.toList) e
        cases this
      clear htn hall hbm hds hdd hsz hss hT hd
      generalize numT most s.data.toList = r at *
      generalize (⟨(b :: m).toArray⟩ : ByteArray) = tr at *
      go_enter Tryz.func145, Tryz.ntmps145
      go_wp2_with fail
      refine (HC.out _).mono ?_
      rintro e w' ⟨rfl, rfl⟩
      go_wp2_with fail
      refine (HI1.out _).mono ?_
      rintro e w' ⟨rfl, rfl⟩
      go_wp2_with fail
      refine (HTR.out _).mono ?_
      rintro e w1 ⟨rfl, hb1⟩
      go_wp2
      go_ret2
      exact ⟨0, by rw [HR.out] <;> rfl, fun q hq => (by rw [HR.out] at hq; cases hq), hb1⟩
  · have HR : Hid (numT most s.data.toList = none) := Lib.hid (numT_bad (by rw [← hd]; exact fun h => h01 ⟨h.1, h.2.1⟩))
    have hin : inB 1 (ds.size : Int) most = false := by
      cases hb : inB 1 (ds.size : Int) most with
      | false => rfl
      | true =>
        refine absurd ?_ h01
        unfold inB at hb
        simp at hb
        exact ⟨fun e => by rw [e, List.length_nil] at hsz; omega, by omega⟩
    have HI1 := Lib.hid fun W => HI.out (ds.size : Int) W
    rw [hin] at HI1
    clear hin h01 hds hdd hsz hss hT hd
    generalize numT most s.data.toList = r at *
    go_enter Tryz.func145, Tryz.ntmps145
    go_wp2_with fail
    refine (HC.out _).mono ?_
    rintro e w' ⟨rfl, rfl⟩
    go_wp2_with fail
    refine (HI1.out _).mono ?_
    rintro e w' ⟨rfl, rfl⟩
    go_wp2
    go_ret2
    exact ⟨0, by rw [HR.out] <;> rfl, fun q hq => (by rw [HR.out] at hq; cases hq), Below.refl _ _⟩
theorem numsK_len : ∀ {xs : List (List UInt8)} {ns : List Int}, numsK xs = some ns → ns.length = xs.length
  | [], ns, h => by simp only [numsK, Option.some.injEq] at h; subst h; rfl
  | x :: r, ns, h => by
    rw [numsK] at h
    cases hx : numT 15 x with
    | none => rw [hx] at h; cases h
    | some n =>
      cases hr : numsK r with
      | none => simp only [hx, hr] at h; cases h
      | some ms =>
        simp only [hx, hr, Option.some.injEq] at h
        subst h
        rw [List.length_cons, List.length_cons, numsK_len hr]
theorem numsK_snoc0 {xs : List (List UInt8)} (x : List UInt8) (h : numsK xs = none) : numsK (xs ++ [x]) = none := by
  induction xs with
  | nil => cases h
  | cons y r ih =>
    rw [List.cons_append]
    rw [numsK] at h ⊢
    cases hy : numT 15 y with
    | none => rfl
    | some m =>
      cases hr : numsK r with
      | none => simp only [ih hr]
      | some ms => simp only [hy, hr] at h; cases h
set_option maxHeartbeats 4000000 in
set_option maxRecDepth 100000 in
theorem RNumbersIn_any (v : Value) (l : List ByteArray) (w : World) (hT : TxW w) (rl : RecR TS w 0 v l) (hl : l.length ≤ 1000000) (hs : ∀ x ∈ l, x.size ≤ 1000000) :
    Calls Tryz.prog 101 #[v, .int .i64 15] w fun e w' => ∃ u ns, e = .returned (.tuple #[u, .bool (numsK (l.map (·.data.toList))).isSome]) ∧ Own w' w.heap.size u ns ∧ ns.length = l.length ∧ (∀ q, numsK (l.map (·.data.toList)) = some q → q = ns) ∧ Below w.heap.size w w' := by
  obtain ⟨a, cap, rfl, hc1, hc2⟩ := rl.form
  have RL := Lib.hid rl
  have HS := Lib.hid hs
  have HT := Lib.hid hT
  clear rl hs hT
  go_enter Tryz.func101, Tryz.ntmps101
  go_wp2_with fail
  go_loopw [6, 7, 14] (fun v b i wr => ∃ (k : Nat) (ns : List Int) (ok : Bool), k ≤ l.length ∧ i = .int .i64 k ∧ b = .bool ok ∧ Own wr w.heap.size v ns ∧ Hid (ns.length = k ∧ (numsK ((l.take k).map (·.data.toList))).isSome = ok ∧ ∀ q, numsK ((l.take k).map (·.data.toList)) = some q → q = ns) ∧ Below w.heap.size w wr) (fun _ _ i _ => l.length - (intOf i).toNat)
  case atStart => exact ⟨0, [], true, Nat.zero_le _, rfl, rfl, Own.nil _ _, Lib.hid ⟨rfl, rfl, fun q hq => by simp only [List.take_zero, List.map_nil, numsK, Option.some.injEq] at hq; exact hq.symm⟩, Below.refl _ _⟩
  case round =>
    obtain ⟨k, ns, ok, hk, rfl, rfl, hO, hP, hB⟩ := hrel
    by_cases hlt : k < l.length
    · obtain ⟨x, hx⟩ : ∃ x, l[k]? = some x := ⟨_, List.getElem?_eq_getElem hlt⟩
      obtain ⟨b, o, rfl, _, hb, c0⟩ := strs_at (RL.out.below hB) hx
      have hw1 : IntKind.i64.wrap ((k : Int) + 1) = ((k + 1 : Nat) : Int) := by rw [IntWalk.i64_in _ (by omega)]; omega
      have HN := Lib.hid fun (W : World) (hW : TxW W) => RNumber_any x 15 W hW (HS.out x (List.mem_of_getElem? hx)) (by omega)
      have HX := Lib.hid hx
      clear hx
      obtain ⟨r, hr⟩ : ∃ r, r = numT 15 x.data.toList := ⟨_, rfl⟩
      rw [← hr] at HN
      have HR := Lib.hid hr.symm
      clear hr
      obtain ⟨bo, hbo⟩ : ∃ bo, bo = r.isSome := ⟨_, rfl⟩
      rw [← hbo] at HN
      have HBO := Lib.hid hbo
      clear hbo
      have hTk : TxW wr := HT.out.below hB
      go_wp2_with fail
      refine (HN.out _ hTk).mono ?_
      rintro e w1 ⟨n, rfl, hn, hb1⟩
      have HNN := Lib.hid hn
      have hO1 := hO.below hb1
      have hB1 := Bl.trans hB hb1
      have hz1 := hB1.size
      clear hb1 hO hB c0 hn hTk
      go_wp2_with (at_builtin; refine wp_app_int rfl _ _ rfl w.heap.size _ ns rfl (hO1.alloc _) w1.heap.size 1 n rfl (by rw [blk_cell (blk_new w1 _) 0]; rfl) (by have := hP.out.1; omega) (by simp; omega) ?_)
      intro v' w3 hO3 hA3 hb3
      have HP : Hid ((ns ++ [n]).length = k + 1 ∧ (numsK ((l.take (k + 1)).map (·.data.toList))).isSome = (ok && bo) ∧ ∀ q, numsK ((l.take (k + 1)).map (·.data.toList)) = some q → q = ns ++ [n]) := Lib.hid (by
        rw [List.take_add_one, HX.out, List.map_append]
        refine ⟨by rw [List.length_append, hP.out.1]; rfl, ?_⟩
        have h2 := hP.out.2
        rw [HBO.out]
        cases hm : numsK ((l.take k).map (·.data.toList)) with
        | none =>
          rw [hm] at h2
          have := numsK_snoc0 x.data.toList hm
          simp only [Option.toList_some, List.map_cons, List.map_nil]
          rw [this]
          exact ⟨by rw [← h2.1]; rfl, fun q hq => by cases hq⟩
        | some ms =>
          rw [hm] at h2
          have e1 := h2.2 ms rfl
          have h3 := HNN.out
          have h4 := HR.out
          simp only [Option.toList_some, List.map_cons, List.map_nil]
          cases r with
          | none =>
            rw [numsK_bad h4 _ []]
            exact ⟨by simp, fun q hq => by cases hq⟩
          | some y =>
            rw [numsK_snoc hm _ h4]
            have e2 := h3 y rfl
            subst e1 e2
            exact ⟨by rw [← h2.1]; rfl, fun q hq => by injection hq with hq; exact hq.symm⟩)
      cases ok
      all_goals
        go_wp2
        go_roundw
        case rel => exact ⟨k + 1, ns ++ [n], _, by omega, by go_num, rfl, hO3, HP, (Bl.alloc hB1 _).trans hb3⟩
        case measure => simp [intOf]; omega
    · obtain rfl : k = l.length := by omega
      have hQ := hP.out
      rw [List.take_length] at hQ
      have HQ := Lib.hid hQ
      clear hQ
      go_wp2
      go_ret2
      exact ⟨_, by rw [HQ.out.2.1] <;> rfl, ns, hO, HQ.out.1, HQ.out.2.2, hB⟩
end Go.Proofs.YtgcmlhpocbgkaaaGreatDoor
namespace Go.Proofs.YtgcmlhpocbgkaaaGreatDoor
open Go.RowKit Go.Sort

def TPo : Rty Pt := { e := 57, S := 54, k := 2, b := 16, z := .agg #[.int .i64 0, .int .i64 0], f := fun p => [.int .i64 p.1, .int .i64 p.2] }
theorem TPo.ok : TPo.Ok := ⟨by kernel_rfl, Tryz.underlying54, rfl, by decide, fun _ => rfl, fun x u hu => by simp [TPo] at hu; rcases hu with rfl | rfl <;> rfl, by decide⟩
theorem flat_pcs : ∀ l : List Pt, l.flatMap TPo.f = pcs l
  | [] => rfl
  | p :: l => by rw [List.flatMap_cons, flat_pcs l]; rfl
theorem OwnR.ownP {w : World} {B : Nat} {v : Value} {l : List Pt} (h : OwnR TPo w B v l) : OwnP w B v l := by
  have h2 := h
  unfold OwnR at h2
  rw [flat_pcs] at h2
  exact h2
theorem TxW.belowB {w w' : World} {B : Nat} (h : TxW w) (hb : Below B w w') (h1 : 1 < B) (h2 : 0 < B) : TxW w' := by
  refine ⟨?_, ?_⟩
  · have hgn : Tryz.prog.globalNamed "internal/strconv.uint64pow10" = some 1 := by kernel_rfl
    have ht := h.tab
    unfold Lib.TabIs World.var? at ht ⊢
    rw [hgn] at ht ⊢
    simp only [Option.bind_some] at ht ⊢
    rw [hb.block _ h1]
    exact ht
  · obtain ⟨m, hm⟩ := h.max
    exact ⟨m, (hb.cell (p := ⟨0, 0, none⟩) h2).trans hm⟩
/-- the box Bo holds a row of points of the call's own. -/
def BoxP (B Bo : Nat) (pts : List Pt) (W : World) : Prop := ∃ v, W.heap[Bo]? = some (.cells #[v] 54 (0, 0)) ∧ OwnR TPo W B v pts
theorem BoxP.below {B Bo : Nat} {pts : List Pt} {W W' : World} (h : BoxP B Bo pts W) (hb : Below W.heap.size W W') : BoxP B Bo pts W' := by
  obtain ⟨v, h1, h2⟩ := h
  exact ⟨v, blk_below h1 hb, h2.below hb⟩
theorem rdP_two {x a b : List UInt8} (h : splitL 32 x = [a, b]) : rdP x = (numsK [a, b]).bind fun ns => match ns with | [m, n] => some (m, n) | _ => none := by
  unfold rdP
  rw [h]
  simp only [numsK]
  cases numT 15 a with
  | none => rfl
  | some m =>
    cases numT 15 b with
    | none => rfl
    | some n => rfl
theorem rdP_no {x : List UInt8} (h : (splitL 32 x).length ≠ 2) : rdP x = none := by
  unfold rdP
  match hs : splitL 32 x with
  | [] => rfl
  | [a] => rfl
  | [a, b] => rw [hs] at h; exact absurd rfl h
  | a :: b :: c :: r => rfl
theorem splitL_le (c : UInt8) : ∀ (l : List UInt8), ∀ z ∈ splitL c l, z.length ≤ l.length
  | [], z, h => by simp [splitL] at h; subst h; simp
  | b :: r, z, h => by
    have ih := splitL_le c r
    simp only [splitL] at h
    split at h
    · rcases List.mem_cons.1 h with rfl | h
      · simp
      · have := ih z h; simp; omega
    · split at h
      · rename_i e; exact absurd e (splitL_ne c r)
      · rename_i y ys e
        rw [e] at ih
        rcases List.mem_cons.1 h with rfl | h
        · have := ih y (by simp); simp; omega
        · have := ih z (List.mem_cons_of_mem _ h); simp; omega
set_option maxHeartbeats 4000000 in
set_option maxRecDepth 100000 in
theorem Rpt_any (B Bo : Nat) (x : ByteArray) (pts : List Pt) (W : World) (hT : TxW W) (hx : x.size ≤ 1000000) (hI : BoxP B Bo pts W) (hp : pts.length ≤ 900000) (hBo : Bo < B) (hBW : B ≤ W.heap.size) :
    Calls Tryz.prog 100 #[.string x, .pointer (some ⟨Bo, 0, none⟩)] W fun e W' => e = .returned (.bool (rdP x.data.toList).isSome) ∧ ∃ pts', BoxP B Bo pts' W' ∧ (∀ p, rdP x.data.toList = some p → pts' = pts ++ [p]) ∧ pts'.length ≤ pts.length + 1 ∧ Below Bo W W' := by
  have HS := Lib.hid (Split_any x 32 W hT hx)
  have hsz : Bo < W.heap.size := by omega
  by_cases h2 : (splitL 32 x.data.toList).length = 2
  · obtain ⟨a, b, hab⟩ : ∃ a b, splitL 32 x.data.toList = [a, b] := by
      match hs : splitL 32 x.data.toList with
      | [] => rw [hs] at h2; cases h2
      | [a] => rw [hs] at h2; cases h2
      | [a, b] => exact ⟨a, b, rfl⟩
      | a :: b :: c :: r => rw [hs] at h2; simp at h2
    have HRD := Lib.hid (rdP_two hab)
    rw [hab] at HS
    have HT := Lib.hid hT
    have HAB := Lib.hid hab
    have HI := Lib.hid hI
    clear hab h2 hT hI
    go_enter Tryz.func100, Tryz.ntmps100
    go_wp2_with fail
    refine HS.out.mono ?_
    rintro e w1 ⟨v, l, rfl, hO, hm, hl, hb1⟩
    have hl2 : l.length = 2 := by rw [← List.length_map (f := fun (x : ByteArray) => x.data.toList), hm]; rfl
    obtain ⟨sa, scap, rfl, hc1, hc2⟩ := hO.form
    have HN := Lib.hid (RNumbersIn_any (.slice sa l.length scap) l w1 (HT.out.below hb1) hO.rec0 (by omega) (fun y hy => by
      have h1 := splitL_le 32 x.data.toList y.data.toList (by rw [HAB.out, ← hm]; exact List.mem_map_of_mem hy)
      have h2 : y.data.toList.length = y.size := Array.length_toList
      have h3 : x.data.toList.length = x.size := Array.length_toList
      omega))
    rw [hm] at HN
    rw [hl2] at HN hc1 ⊢
    have HI1 := Lib.hid (HI.out.below hb1)
    clear hO hm hl
    go_wp2_with fail
    refine HN.out.mono ?_
    rintro e w2 ⟨u, ns, rfl, hu, hnl, hq, hb2⟩
    obtain ⟨n1, n2, rfl⟩ : ∃ n1 n2, ns = [n1, n2] := by
      match ns, hnl with
      | [n1, n2], _ => exact ⟨n1, n2, rfl⟩
    have hB2 := Bl.trans hb1 hb2
    obtain ⟨bv, hbb, hbo⟩ := HI1.out.below hb2
    obtain ⟨oa, ocap, rfl, _, _⟩ := hbo.form
    have hz2 := hB2.size
    have HVO := Lib.hid (show ∀ U, Below w2.heap.size w2 U → OwnR TPo U B (.slice oa pts.length ocap) pts from fun U hU => hbo.below hU)
    have HBX := Lib.hid (show ∀ U V, Below w2.heap.size w2 U → Below B U V → V.heap[Bo]? = some (.cells #[.slice oa pts.length ocap] 54 (0, 0)) from fun U V hU hV => (hV.block Bo hBo).trans (blk_below hbb hU))
    have c0 : w2.cell? ⟨Bo, 0, none⟩ = some (.slice oa pts.length ocap) := blk_cell hbb 0
    have hu1 : ∃ gu ucap, u = .slice (some ⟨gu, 0, none⟩) 2 ucap ∧ gu < w2.heap.size ∧ 2 ≤ ucap ∧ w2.cell? ⟨gu, 0, none⟩ = some (.int .i64 n1) ∧ w2.cell? ⟨gu, 1, none⟩ = some (.int .i64 n2) := by
      rcases hu.2 with ⟨_, h⟩ | ⟨g, cap, cur, rfl, hB, hb, h1, h2, h3, h4⟩
      · simp at h
      · refine ⟨g, cap, rfl, blk_lt hb, h1, ?_, ?_⟩
        · rw [blk_cell hb 0]
          have := congrArg (fun l => l[0]?) h4
          simpa [ics] using this
        · rw [blk_cell hb 1]
          have := congrArg (fun l => l[1]?) h4
          simpa [ics] using this
    obtain ⟨gu, ucap, rfl, hgu, huc, c1, c2⟩ := hu1
    have HQ := Lib.hid hq
    have HB2 := Lib.hid hB2
    have hbz : Bo < w2.heap.size := by omega
    clear hq hbb hbo hu hB2 hb1 hb2 hnl
    go_wp2
    go_region_law (refine step_app_rec TPo.ok rfl (.tmp 17) (.tmp 25) rfl B _ pts (by simp [Act.eval]) (HVO.out _ (by first | exact Below.drew (Bl.alloc (Below.refl _ _) _) | exact Bl.alloc (Below.drew (Below.refl _ _)) _)) w2.heap.size 1 (n1, n2) (by simp [Act.eval]) (by first | exact blk_new w2 _ | exact blk_new w2.drew _) rfl (by omega) (by simp; omega) ?_; intro v3 w3 hO3 hg3 hb3; have hU3 := HBX.out _ w3 (by first | exact Below.drew (Bl.alloc (Below.refl _ _) _) | exact Bl.alloc (Below.drew (Below.refl _ _)) _) hb3; have hc3 : w3.cell? ⟨Bo, 0, none⟩ = some (.slice oa pts.length ocap) := blk_cell hU3 0; have hf3 := blk_free hU3 0; have HW3 : Hid (Below Bo W w3) := Lib.hid (((HB2.out.mono (show Bo ≤ W.heap.size by omega)).trans ((show Below w2.heap.size w2 _ from by first | exact Below.drew (Bl.alloc (Below.refl _ _) _) | exact Bl.alloc (Below.drew (Below.refl _ _)) _).mono (show Bo ≤ w2.heap.size by omega))).trans (hb3.mono (show Bo ≤ B by omega))); obtain ⟨a3, c3, hv3, _, _⟩ := hO3.form; rw [List.length_append, List.length_singleton] at hv3; subst hv3)
    all_goals (
      have HFI : Hid (BoxP B Bo (pts ++ [(n1, n2)]) (w3.setCell ⟨Bo, 0, none⟩ (.slice a3 (pts.length + 1) c3)) ∧ Below Bo W (w3.setCell ⟨Bo, 0, none⟩ (.slice a3 (pts.length + 1) c3))) := Lib.hid ⟨⟨_, (by have := blk_set hU3 0 (.slice a3 (pts.length + 1) c3); simpa using this), hO3.far hBo 0 _⟩, Bl.set HW3.out Bo 0 (Nat.le_refl _) _⟩
      have HPO : Hid ((numsK [a, b]).isSome = (rdP x.data.toList).isSome ∧ ∀ p, rdP x.data.toList = some p → pts ++ [(n1, n2)] = pts ++ [p]) := Lib.hid (by
        rw [HRD.out]
        cases hk : numsK [a, b] with
        | none => exact ⟨rfl, fun p hp => by cases hp⟩
        | some q =>
          have := HQ.out q hk
          subst this
          exact ⟨rfl, fun p hp => by simp only [Option.bind_some, Option.some.injEq] at hp; rw [← hp]⟩)
      clear hO3 hU3 hg3 hb3
      go_wp2
      go_ret
      exact ⟨by rw [← HPO.out.1] <;> rfl, pts ++ [(n1, n2)], HFI.out.1, HPO.out.2, by simp, HFI.out.2⟩)
  · have HR : Hid (rdP x.data.toList = none) := Lib.hid (rdP_no h2)
    have HH := Lib.hid h2
    have HI := Lib.hid hI
    clear h2 hT hI
    go_enter Tryz.func100, Tryz.ntmps100
    go_wp2_with fail
    refine HS.out.mono ?_
    rintro e w1 ⟨v, l, rfl, hO, hm, hl, hb1⟩
    have hl2 : l.length ≠ 2 := by rw [← List.length_map (f := fun (x : ByteArray) => x.data.toList), hm]; exact HH.out
    obtain ⟨sa, scap, rfl, hc1, hc2⟩ := hO.form
    have hl3 : ¬ (l.length : Int) = 2 := by omega
    clear hO hm
    go_wp2
    go_ret
    exact ⟨by rw [HR.out] <;> rfl, pts, HI.out.below hb1, fun p hp => (by rw [HR.out] at hp; cases hp), by omega, hb1.mono (by omega)⟩
end Go.Proofs.YtgcmlhpocbgkaaaGreatDoor
namespace Go.Proofs.YtgcmlhpocbgkaaaGreatDoor
open Go.RowKit Go.Sort

theorem cut_one (t : List UInt8) : ((10 : UInt8) ∉ t ∧ Lib.cut t [10] = (t, [], false)) ∨ ∃ a b, t = a ++ 10 :: b ∧ (10 : UInt8) ∉ a ∧ Lib.cut t [10] = (a, b, true) := by
  rcases index_one 10 t with ⟨h1, h2⟩ | ⟨i, h1, h2, h3, h4⟩
  · refine .inl ⟨h2, ?_⟩
    unfold Lib.cut
    rw [h1]
    simp
  · refine .inr ⟨t.take i, t.drop (i + 1), ?_, h3, ?_⟩
    · rw [← h4, List.take_append_drop]
    · unfold Lib.cut
      rw [h1]
      simp
theorem readS_end (i : Nat) : readS rdP i (splitL 10 []) = .ok [] := by simp [splitL, readS]
theorem readS_open {t : List UInt8} (h : (10 : UInt8) ∉ t) (h0 : t ≠ []) (i : Nat) : readS rdP i (splitL 10 t) = .error i := by
  rw [splitL_no h]; unfold readS; rw [if_neg h0]
theorem readS_line {a : List UInt8} (h : (10 : UInt8) ∉ a) (b : List UInt8) (i : Nat) : readS rdP i (splitL 10 (a ++ 10 :: b)) = match rdP a with
    | none => .error i
    | some p => match readS rdP (i + 1) (splitL 10 b) with
      | .error e => .error e
      | .ok l => .ok (p :: l) := by
  rw [splitL_sep b h]
  cases hs : splitL 10 b with
  | nil => exact absurd hs (splitL_ne 10 b)
  | cons y r =>
    conv => lhs; rw [readS]
    cases rdP a with
    | none => rfl
    | some p => cases readS rdP (i + 1) (y :: r) <;> rfl
/-- what has been read, ahead of what is read. -/
def onto (pts : List Pt) : Except Nat (List Pt) → Except Nat (List Pt)
  | .error e => .error e
  | .ok l => .ok (pts ++ l)
theorem onto_cons (pts : List Pt) (p : Pt) (r : Except Nat (List Pt)) : onto pts (match r with
    | .error e => .error e
    | .ok l => .ok (p :: l)) = onto (pts ++ [p]) r := by
  cases r with
  | error e => rfl
  | ok l => simp [onto]
/-- how Lines ends. -/
def LnEnd (B Bo : Nat) (r : Except Nat (List Pt)) (e : Ending) (W : World) : Prop := match r with
  | .error i => e = .returned (.tuple #[.int .i64 i, .bool false]) ∧ i ≤ 200000
  | .ok l => e = .returned (.tuple #[.int .i64 0, .bool true]) ∧ BoxP B Bo l W ∧ l.length ≤ 200000
theorem drewN_below (w : World) (n : Nat) : Below w.heap.size w (w.drewN n) := Bl.drewN (Below.refl _ _) n
set_option maxHeartbeats 4000000 in
set_option maxRecDepth 100000 in
theorem RLines_any (B Bo : Nat) (s : ByteArray) (W : World) (hT : TxW W) (hg1 : 1 < Bo) (hg2 : 0 < Bo) (hs : s.size ≤ 200000) (hI : BoxP B Bo [] W) (hBo : Bo < B) (hBW : B ≤ W.heap.size) :
    Calls Tryz.prog 99 #[.string s, .func (.func 100) #[] #[.pointer (some ⟨Bo, 0, none⟩)]] W fun e W' => LnEnd B Bo (readS rdP 0 (splitL 10 s.data.toList)) e W' ∧ Below Bo W W' := by
  obtain ⟨R, hR⟩ : ∃ R, R = readS rdP 0 (splitL 10 s.data.toList) := ⟨_, rfl⟩
  rw [← hR]
  have HT := Lib.hid hT
  have HR0 := Lib.hid hR
  clear hT hR
  go_enter Tryz.func99, Tryz.ntmps99
  go_wp2_with fail
  go_loopg [0, 6] s.size (fun gk sv iv wr => ∃ (t : ByteArray) (i : Nat) (pts : List Pt), gk = t.size ∧ sv = .string t ∧ iv = .int .i64 i ∧ Hid (R = onto pts (readS rdP i (splitL 10 t.data.toList))) ∧ i + t.size ≤ 200000 ∧ pts.length ≤ i ∧ BoxP B Bo pts wr ∧ Below Bo W wr ∧ B ≤ wr.heap.size)
  case atStart =>
    refine ⟨s, 0, [], rfl, rfl, rfl, Lib.hid ?_, by omega, by simp, hI, Below.refl _ _, hBW⟩
    rw [HR0.out]
    cases readS rdP 0 (splitL 10 s.data.toList) <;> simp [onto]
  case round =>
    obtain ⟨t, i, pts, rfl, rfl, rfl, hP, hit, hpl, hBx, hB, hBw⟩ := hrel
    have hts : t.data.toList.length = t.size := Array.length_toList
    by_cases h0 : t.size = 0
    · obtain rfl : t = ⟨#[]⟩ := by
        apply ByteArray.ext
        exact Array.eq_empty_of_size_eq_zero h0
      have HR : Hid (R = .ok pts) := Lib.hid (by rw [hP.out]; simp [splitL, readS, onto])
      clear hP h0 hts
      go_wp2
      go_ret2
      refine ⟨?_, hB⟩
      unfold LnEnd
      rw [HR.out]
      exact ⟨rfl, hBx, by omega⟩
    · have hne : t.data.toList ≠ [] := fun e => by rw [e] at hts; exact h0 hts.symm
      have e1 : t.toList.isEmpty = false := by
        rw [ByteArray.toList_eq]; cases h : t.data.toList with | nil => exact absurd h hne | cons => rfl
      have e2 : ¬ t.toList = [] := by rw [ByteArray.toList_eq]; exact hne
      have hTk : TxW wr := HT.out.belowB hB hg1 hg2
      have HCT : Hid (∀ (U : World), TxW U → Calls Tryz.prog 144 #[.string t, .string ⟨#[10]⟩] U fun e w' => e = .returned (.tuple #[.string ⟨(Lib.cut t.data.toList [10]).1.toArray⟩, .string ⟨(Lib.cut t.data.toList [10]).2.1.toArray⟩, .bool (Lib.cut t.data.toList [10]).2.2]) ∧ Below U.heap.size U w') := Lib.hid fun U hU => by
        obtain ⟨m, hm⟩ := hU.max
        refine (Tryz.strings_Cut t ⟨#[10]⟩ m U (by omega) hm).mono ?_
        rintro e w' ⟨rfl, n, rfl⟩
        exact ⟨rfl, drewN_below U n⟩
      rcases cut_one t.data.toList with ⟨h1, h2⟩ | ⟨a, b, h1, h2, h3⟩
      · have HR : Hid (R = .error i) := Lib.hid (by rw [hP.out, readS_open h1 hne]; rfl)
        rw [h2] at HCT
        clear hP h1 h2 hne hts
        go_wp2_with fail
        refine (HCT.out _ hTk).mono ?_
        rintro e w1 ⟨rfl, hb1⟩
        go_wp2
        go_ret2
        refine ⟨?_, hB.trans (hb1.mono (by omega))⟩
        unfold LnEnd
        rw [HR.out]
        exact ⟨rfl, by omega⟩
      · have hlen : a.length + b.length + 1 = t.size := by rw [← hts, h1]; simp; omega
        have hRS := hP.out
        rw [h1, readS_line h2] at hRS
        rw [h3] at HCT
        obtain ⟨ax, has⟩ : ∃ x : ByteArray, x = ⟨a.toArray⟩ := ⟨_, rfl⟩
        obtain ⟨bs, hbs⟩ : ∃ x : ByteArray, x = ⟨b.toArray⟩ := ⟨_, rfl⟩
        have ha : ax.data.toList = a := by rw [has]
        have hb : bs.data.toList = b := by rw [hbs]
        have haz : ax.size = a.length := by rw [← ha]; exact (Array.length_toList).symm
        have hbz : bs.size = b.length := by rw [← hb]; exact (Array.length_toList).symm
        simp only at HCT
        rw [← has, ← hbs] at HCT
        rw [← ha, ← hb] at hRS
        have HRS := Lib.hid hRS
        have HRP := Lib.hid fun (U : World) (hT : TxW U) (hI : BoxP B Bo pts U) (hBW : B ≤ U.heap.size) => Rpt_any B Bo ax pts U hT (by omega) hI (by omega) hBo hBW
        have hsb : bs.size < t.size := by omega
        have hw1 : IntKind.i64.wrap ((i : Int) + 1) = ((i + 1 : Nat) : Int) := by rw [IntWalk.i64_in _ (by omega)]; omega
        have hib : i + 1 + bs.size ≤ 200000 := by omega
        clear hP h1 h2 h3 hne hts hRS has hbs ha hb haz hbz hlen
        go_wp2_with fail
        refine (HCT.out _ hTk).mono ?_
        rintro e w1 ⟨rfl, hb1⟩
        have hB1 := hB.trans (hb1.mono (show Bo ≤ wr.heap.size by omega))
        have hz1 := hb1.size
        have hTk1 := hTk.below hb1
        have hBx1 := hBx.below hb1
        have hBw1 : B ≤ w1.heap.size := by omega
        clear hTk hBx hb1 hB
        cases hr : rdP ax.data.toList with
        | none =>
          have HR : Hid (R = .error i) := Lib.hid (by rw [HRS.out, hr]; rfl)
          rw [hr] at HRP
          clear hr
          go_wp2_with fail
          refine (HRP.out _ hTk1 hBx1 hBw1).mono ?_
          rintro e w2 ⟨rfl, pts', hBx2, hp2, hl2, hb2⟩
          go_wp2
          go_ret2
          refine ⟨?_, hB1.trans hb2⟩
          unfold LnEnd
          rw [HR.out]
          exact ⟨rfl, by omega⟩
        | some p =>
          have HR : Hid (R = onto (pts ++ [p]) (readS rdP (i + 1) (splitL 10 bs.data.toList))) := Lib.hid (by rw [HRS.out, hr]; exact onto_cons _ _ _)
          rw [hr] at HRP
          clear hr
          go_wp2_with fail
          refine (HRP.out _ hTk1 hBx1 hBw1).mono ?_
          rintro e w2 ⟨rfl, pts', hBx2, hp2, hl2, hb2⟩
          obtain rfl := hp2 p rfl
          have hz2 := hb2.size
          have hpl2 : (pts ++ [p]).length ≤ i + 1 := by rw [List.length_append, List.length_singleton]; omega
          have HPL := Lib.hid hpl2
          clear hp2 hl2 hpl2
          go_wp2
          go_roundg bs.size
          case rel => exact ⟨bs, i + 1, pts ++ [p], rfl, rfl, by go_num, HR, hib, HPL.out, hBx2, hB1.trans hb2, by omega⟩
          all_goals (first | exact hsb | omega)
end Go.Proofs.YtgcmlhpocbgkaaaGreatDoor
namespace Go.Proofs.YtgcmlhpocbgkaaaGreatDoor
open Go.RowKit Go.Sort

def rdEnd : Except Nat (List Pt) → List Pt × Int × Int
  | .error i => ([], i, 9)
  | .ok l => if ptsF l 500 = 0 then (l, 0, 0) else ([], 0, ptsF l 500)
/-- what is read from a text: the points, the line of the fault, the error. -/
def ptsRead (t : List UInt8) : List Pt × Int × Int :=
  if 200000 < t.length then ([], 0, 2) else rdEnd (readS rdP 0 (splitL 10 t))
theorem PointsFault_big (P : List Pt) (vp : Value) (w : World) (hlen : P.length ≤ 300000) (rp : Pts w 0 vp P) :
    Calls Tryz.prog 32 #[vp, .int .i64 500] w fun e w' => e = .returned (.int .i64 (ptsF P 500)) ∧ Below w.heap.size w w' := by
  by_cases hm : P.length ≤ 500
  · exact PointsFault_any P 500 vp w (by omega) rp
  · obtain ⟨a, cap, rfl, hc1, hc2⟩ := Pts.form rp
    have hm1 : ¬ (P.length : Int) ≤ 500 := by omega
    go_enter Tryz.func32, Tryz.ntmps32
    go_wp2
    go_ret
    exact ⟨ret_int (by unfold ptsF; rw [if_neg (by omega)]), Below.refl _ _⟩
theorem CheckPoints_big (P : List Pt) (vp : Value) (w : World) (hlen : P.length ≤ 300000) (rp : Pts w 0 vp P) :
    Calls Tryz.prog 31 #[vp, .int .i64 500] w fun e w' => e = .returned (.int .i64 (ptsF P 500)) ∧ Below w.heap.size w w' := by
  by_cases hm : P.length ≤ 500
  · exact CheckPoints_any P 500 vp w (by omega) rp
  · obtain ⟨a, cap, rfl, hc1, hc2⟩ := Pts.form rp
    have hm1 : ¬ (P.length : Int) ≤ 500 := by omega
    go_enter Tryz.func31, Tryz.ntmps31
    go_wp2
    go_ret
    exact ⟨ret_int (by unfold ptsF; rw [if_neg (by omega)]), Below.refl _ _⟩
theorem OwnP.base {w : World} {B B' : Nat} {v : Value} {l : List Pt} (h : OwnP w B v l) (hb : B' ≤ B) : OwnP w B' v l := by
  refine ⟨h.1, ?_⟩
  rcases h.2 with hn | ⟨g, cap, cur, hv, hb2, hg, rest⟩
  · exact .inl hn
  · exact .inr ⟨g, cap, cur, hv, by omega, hg, rest⟩
set_option maxHeartbeats 4000000 in
set_option maxRecDepth 100000 in
theorem RRead_any (s : ByteArray) (w : World) (hT : TxW w) (hs : s.size ≤ 1000000) :
    Calls Tryz.prog 40 #[.string s] w fun e w' => ∃ v, e = .returned (.tuple #[v, .int .i64 (ptsRead s.data.toList).2.1, .int .i64 (ptsRead s.data.toList).2.2]) ∧ OwnP w' w.heap.size v (ptsRead s.data.toList).1 ∧ Below w.heap.size w w' := by
  have hsz : s.data.toList.length = s.size := Array.length_toList
  by_cases hbig : 200000 < s.size
  · have HV : Hid (ptsRead s.data.toList = ([], 0, 2)) := Lib.hid (by unfold ptsRead; rw [if_pos (by omega)])
    have hb1 : (200000 : Int) < (s.size : Int) := by omega
    clear hsz
    go_enter Tryz.func40, Tryz.ntmps40
    go_wp2
    go_ret3
    exact ⟨_, by rw [HV.out] <;> rfl, by rw [HV.out]; exact OwnP.nil _ _, Below.refl _ _⟩
  · obtain ⟨R, hR⟩ : ∃ R, R = readS rdP 0 (splitL 10 s.data.toList) := ⟨_, rfl⟩
    have HV : Hid (ptsRead s.data.toList = rdEnd R) := Lib.hid (by unfold ptsRead; rw [if_neg (by omega), ← hR])
    have hb1 : ¬ (200000 : Int) < (s.size : Int) := by omega
    obtain ⟨g1, g2⟩ := hT.size
    have hA := Bl.alloc (Below.refl w.heap.size w) (.cells #[.slice none 0 0] 54)
    have HL := Lib.hid (RLines_any (w.heap.size + 1) w.heap.size s (w.alloc (.cells #[.slice none 0 0] 54)) (hT.below hA) g1 g2 (by omega) ⟨_, blk_new w _, OwnR.nil _ _⟩ (Nat.lt_succ_self _) (by simp))
    rw [← hR] at HL
    have HA := Lib.hid hA
    clear hsz hR hT hA
    go_enter Tryz.func40, Tryz.ntmps40
    go_wp2_with fail
    refine HL.out.mono ?_
    rintro e w1 ⟨hE, hb⟩
    have hB := HA.out.trans hb
    have hz1 := hB.size
    clear hb HL HA
    cases R with
    | error i =>
      have HV : Hid (ptsRead s.data.toList = ([], (i : Int), 9)) := Lib.hid HV.out
      obtain ⟨rfl, hi⟩ := hE
      go_wp2
      go_ret3
      exact ⟨_, by rw [HV.out] <;> rfl, by rw [HV.out]; exact OwnP.nil _ _, hB⟩
    | ok l =>
      obtain ⟨rfl, ⟨v, hbx, hO⟩, hl⟩ := hE
      have hP : OwnP w1 (w.heap.size + 1) v l := hO.ownP
      have c0 : w1.cell? ⟨w.heap.size, 0, none⟩ = some v := blk_cell hbx 0
      have hlt := blk_lt hbx
      have HF := Lib.hid (PointsFault_big l v w1 (by omega) (hP.pts.mono (Nat.zero_le _)))
      have HP := Lib.hid hP
      obtain ⟨a, cap, rfl, hc1, hc2⟩ := Pts.form hP.pts
      clear hbx hO hP
      obtain ⟨f, hf⟩ : ∃ f, f = ptsF l 500 := ⟨_, rfl⟩
      rw [← hf] at HF
      have HV : Hid (ptsRead s.data.toList = if ptsF l 500 = 0 then (l, 0, 0) else ([], 0, ptsF l 500)) := Lib.hid HV.out
      rw [← hf] at HV
      have HFF := Lib.hid hf
      clear hf
      by_cases h0 : f = 0
      · have HV0 : Hid (ptsRead s.data.toList = (l, 0, 0)) := Lib.hid (by rw [HV.out, if_pos h0])
        clear HV
        subst h0
        go_wp2_with fail
        refine HF.out.mono ?_
        rintro e w2 ⟨rfl, hb2⟩
        have c1 := (hb2.cell (p := ⟨w.heap.size, 0, none⟩) hlt).trans c0
        have hO2 := HP.out.below hb2
        have HO2 := Lib.hid hO2
        have hB2 := Bl.trans hB hb2
        clear hO2
        go_wp2
        go_ret3
        exact ⟨_, by rw [HV0.out] <;> rfl, by rw [HV0.out]; exact OwnP.base HO2.out (Nat.le_succ _), hB2⟩
      · go_wp2_with fail
        refine HF.out.mono ?_
        rintro e w2 ⟨rfl, hb2⟩
        have hB2 := Bl.trans hB hb2
        go_wp2
        go_ret3
        exact ⟨_, by rw [HV.out, if_neg h0] <;> rfl, by rw [HV.out, if_neg h0]; exact OwnP.nil _ _, hB2⟩
end Go.Proofs.YtgcmlhpocbgkaaaGreatDoor
