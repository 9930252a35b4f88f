/- Texts of the proof of a law, put together, part 24 of 35. Conditions: none beyond those that each theorem names. -/
import Derived.Test.YtihgnpobkpnipaaGreatDoorCz2
import Derived.Test.YtihgnpobkpnipaaGreatDoorCz7
import Derived.Deep.RegionLaw
namespace Go.Proofs.YtihgnpobkpnipaaGreatDoor
open Go.RowKit Go.Sort
def valT (l : List UInt8) : Int := if (unsign l).2 = true then -(decV 0 (unsign l).1 : Int) else decV 0 (unsign l).1
theorem numT_key {most : Nat} {l : List UInt8} (h0 : (unsign l).1 ≠ []) (h1 : (unsign l).1.length ≤ most) (h2 : ∀ b ∈ (unsign l).1, isDig b = true) :
    (numT most l = some (valT l) ∧ Lib.itoa (valT l) = l) ∨ (numT most l = none ∧ Lib.itoa (valT l) ≠ l) := by
  by_cases h3 : (unsign l).1.head? = some 48 ∧ (1 < (unsign l).1.length ∨ (unsign l).2 = true)
  · have hn : numT most l = none := numT_none fun h => h.2.2.2 h3
    refine .inr ⟨hn, fun e => ?_⟩
    have hd : Lib.decDigits (valT l).natAbs = (unsign l).1 := by
      have := itoa_unsign (valT l)
      rw [e] at this
      rw [this]
    have := numT_itoa (most := most) (n := valT l) (by rw [hd]; exact h1)
    rw [e, hn] at this
    cases this
  · have hn := numT_some ⟨h0, h1, h2, h3⟩
    exact .inl ⟨hn, (itoa_numT hn).1⟩
theorem numT_bad {most : Nat} {l : List UInt8} (h : ¬((unsign l).1 ≠ [] ∧ (unsign l).1.length ≤ most ∧ ∀ b ∈ (unsign l).1, isDig b = true)) : numT most l = none := numT_none fun k => h ⟨k.1, k.2.1, k.2.2.1⟩
theorem atoi_val {l : List UInt8} (h0 : (unsign l).1 ≠ []) (h2 : ∀ b ∈ (unsign l).1, isDig b = true) : Lib.atoi l = some (valT l) := by
  unfold valT unsign at *
  cases l with
  | nil => exact absurd rfl h0
  | cons b r =>
    simp only at h0 h2 ⊢
    by_cases hb : b = 45
    · subst hb
      cases r with
      | nil => exact absurd (by simp) h0
      | cons c r =>
        have h3 : ∀ b ∈ c :: r, isDig b = true := by simpa using h2
        clear h0 h2
        simp only [Lib.atoi, Lib.decNat]
        rw [decFrom_decV _ _ h3]
        simp
    · simp only [if_neg hb] at h0 h2 ⊢
      rw [atoi_dig h0 h2]
      simp
theorem trimMinus_any (s : ByteArray) (w : World) : Calls Tryz.prog 69 #[.string s, .string ⟨#[45]⟩] w fun e w' => e = .returned (.string ⟨(unsign s.data.toList).1.toArray⟩) ∧ w = w' := by
  have h1 : Lib.trimPrefix s.data.toList [45] = (unsign s.data.toList).1 := by
    unfold Lib.trimPrefix Lib.hasPrefix unsign
    cases s.data.toList with
    | nil => simp
    | cons b r =>
      by_cases hb : b = 45
      · subst hb; simp
      · have : ¬ (45 : UInt8) = b := fun e => hb e.symm
        simp [hb, this, List.isPrefixOf]
  refine (Tryz.strings_TrimPrefix s ⟨#[45]⟩ w).mono ?_
  rintro e w' ⟨rfl, rfl⟩
  exact ⟨by rw [show (⟨#[45]⟩ : ByteArray).data.toList = [45] from rfl, h1], rfl⟩
set_option maxHeartbeats 4000000 in
set_option maxRecDepth 100000 in
theorem RNumber_any (s : ByteArray) (most : Nat) (w : World) (hT : TxW w) (hs : s.size ≤ 1000000) (hm : most ≤ 15) :
    Calls Tryz.prog 24 #[.string s, .int .i64 most] w fun e w' => ∃ n : Int, e = .returned (.tuple #[.int .i64 n, .bool (numT most s.data.toList).isSome]) ∧ (∀ q, numT most s.data.toList = some q → q = n) ∧ Below w.heap.size w w' := by
  have HC := Lib.hid (fun W => trimMinus_any s W)
  have HI := Lib.hid fun (n : Int) (W : World) => in_any n 1 most W
  obtain ⟨d, hd⟩ : ∃ d, d = (unsign s.data.toList).1 := ⟨_, rfl⟩
  obtain ⟨ds, hds⟩ : ∃ ds : ByteArray, ds = ⟨d.toArray⟩ := ⟨_, rfl⟩
  have hdd : ds.data.toList = d := by rw [hds]
  have hsz : ds.size = d.length := by rw [← hdd]; exact (Array.length_toList).symm
  have hss : s.data.toList.length = s.size := Array.length_toList
  have hdl : d.length ≤ s.size ∧ s.size ≤ d.length + 1 := by
    rw [hd, ← hss]
    unfold unsign
    cases s.data.toList with
    | nil => simp
    | cons b r =>
      simp only
      by_cases hb : b = 45
      · rw [if_pos hb]; simp
      · rw [if_neg hb]; simp
  rw [← hd, ← hds] at HC
  by_cases h01 : d ≠ [] ∧ d.length ≤ most
  · obtain ⟨h0, h1⟩ := h01
    have hlen1 : 1 ≤ d.length := List.length_pos_iff.2 h0
    have hin : inB 1 (ds.size : Int) most = true := inB_true (by omega) (by omega)
    have HI1 := Lib.hid fun W => HI.out (ds.size : Int) W
    rw [hin] at HI1
    have HTR := Lib.hid (fun W => trimD_any ds W (by omega))
    have htn := trimD_nil ds.data.toList
    by_cases hall : ∀ b ∈ d, isDig b = true
    · rw [htn.2 (by rw [hdd]; exact hall)] at HTR
      have hkey := numT_key (most := most) (by rw [← hd]; exact h0) (by rw [← hd]; exact h1) (by rw [← hd]; exact hall)
      have hat := atoi_val (by rw [← hd]; exact h0) (by rw [← hd]; exact hall)
      have hlt := decV_lt d 0 hall
      have hp15 : 10 ^ d.length ≤ 10 ^ 15 := Nat.pow_le_pow_right (by omega) (by omega)
      have hv : decV 0 d < 1000000000000000 := by
        have : (10 : Nat) ^ 15 = 1000000000000000 := rfl
        omega
      have hvt : -1000000000000000 < valT s.data.toList ∧ valT s.data.toList < 1000000000000000 := by
        unfold valT
        rw [← hd]
        split <;> omega
      have HAT := Lib.hid (fun W => Atoi_any s (valT s.data.toList) W (by omega) hat)
      have HIT := Lib.hid (fun (W : World) (hW : TxW W) => Itoa_any (valT s.data.toList) W hW (by omega) (by omega))
      obtain ⟨it, hit⟩ : ∃ it : ByteArray, it = ⟨(Lib.itoa (valT s.data.toList)).toArray⟩ := ⟨_, rfl⟩
      rw [← hit] at HIT
      have hcmp : (it = s ∧ numT most s.data.toList = some (valT s.data.toList)) ∨ (it ≠ s ∧ numT most s.data.toList = none) := by
        rcases hkey with ⟨a, b⟩ | ⟨a, b⟩
        · refine .inl ⟨?_, a⟩
          rw [hit, b]
        · refine .inr ⟨fun e => b ?_, a⟩
          have e2 := congrArg (fun x : ByteArray => x.data.toList) (hit.symm.trans e)
          exact e2
      have HTX := Lib.hid hT
      have HHD := Lib.hid hd
      clear hkey hat hlt hp15 htn hall hds hdd hsz hss hit hT hvt hv hd
      generalize valT s.data.toList = va at *
      generalize numT most s.data.toList = r at *
      rcases hcmp with ⟨rfl, hr⟩ | ⟨hne, hr⟩
      · have HR := Lib.hid hr
        clear hr
        go_enter Tryz.func24, Tryz.ntmps24
        go_wp2_with fail
        refine (HC.out _).mono ?_
        rintro e w' ⟨rfl, rfl⟩
        go_wp2_with fail
        refine (HI1.out _).mono ?_
        rintro e w' ⟨rfl, rfl⟩
        go_wp2_with fail
        refine (HTR.out _).mono ?_
        rintro e w1 ⟨rfl, hb1⟩
        go_wp2_with fail
        refine (HAT.out _).mono ?_
        rintro e w2 ⟨rfl, hb2⟩
        go_wp2_with fail
        refine (HIT.out _ (HTX.out.below (Bl.trans hb1 hb2))).mono ?_
        rintro e w3 ⟨rfl, hb3⟩
        go_wp2
        go_ret2
        exact ⟨va, by rw [HR.out] <;> rfl, fun q hq => by rw [HR.out] at hq; injection hq with hq; exact hq.symm, Bl.trans (Bl.trans hb1 hb2) hb3⟩
      · have HR := Lib.hid hr
        have hne2 : (it.toList == s.toList) = false := by
          rw [beq_eq_false_iff_ne, ByteArray.toList_eq, ByteArray.toList_eq]
          exact fun e => hne (ByteArray.ext (Array.toList_inj.1 e))
        have hne3 : ¬ it.toList = s.toList := by
          rw [ByteArray.toList_eq, ByteArray.toList_eq]
          exact fun e => hne (ByteArray.ext (Array.toList_inj.1 e))
        clear hr
        go_enter Tryz.func24, Tryz.ntmps24
        go_wp2_with fail
        refine (HC.out _).mono ?_
        rintro e w' ⟨rfl, rfl⟩
        go_wp2_with fail
        refine (HI1.out _).mono ?_
        rintro e w' ⟨rfl, rfl⟩
        go_wp2_with fail
        refine (HTR.out _).mono ?_
        rintro e w1 ⟨rfl, hb1⟩
        go_wp2_with fail
        refine (HAT.out _).mono ?_
        rintro e w2 ⟨rfl, hb2⟩
        go_wp2_with fail
        refine (HIT.out _ (HTX.out.below (Bl.trans hb1 hb2))).mono ?_
        rintro e w3 ⟨rfl, hb3⟩
        go_wp2
        go_ret2
        exact ⟨va, by rw [HR.out] <;> rfl, fun q hq => (by rw [HR.out] at hq; cases hq), Bl.trans (Bl.trans hb1 hb2) hb3⟩
    · have HR : Hid (numT most s.data.toList = none) := Lib.hid (numT_bad (by rw [← hd]; exact fun h => hall h.2.2))
      obtain ⟨b, m, hbm⟩ : ∃ b m, Lib.trimS ds.data.toList digL = b :: m := by
        cases h : Lib.trimS ds.data.toList digL with
        | nil => exact absurd (by rw [← hdd]; exact htn.1 h) hall
        | cons b m => exact ⟨b, m, rfl⟩
      rw [hbm] at HTR
      have f1 : (⟨(b :: m).toArray⟩ : ByteArray).toList.isEmpty = false := by rw [ba_list]; rfl
      have f2 : ¬ (⟨(b :: m).toArray⟩ : ByteArray).toList = [] := by rw [ba_list]; simp
      have f3 : (⟨(b :: m).toArray⟩ : ByteArray) ≠ ⟨#[]⟩ := fun e => by
        have := congrArg (fun x : ByteArray => x.data.toList) e
        cases this
      clear htn hall hbm hds hdd hsz hss hT hd
      generalize numT most s.data.toList = r at *
      generalize (⟨(b :: m).toArray⟩ : ByteArray) = tr at *
      go_enter Tryz.func24, Tryz.ntmps24
      go_wp2_with fail
      refine (HC.out _).mono ?_
      rintro e w' ⟨rfl, rfl⟩
      go_wp2_with fail
      refine (HI1.out _).mono ?_
      rintro e w' ⟨rfl, rfl⟩
      go_wp2_with fail
      refine (HTR.out _).mono ?_
      rintro e w1 ⟨rfl, hb1⟩
      go_wp2
      go_ret2
      exact ⟨0, by rw [HR.out] <;> rfl, fun q hq => (by rw [HR.out] at hq; cases hq), hb1⟩
  · have HR : Hid (numT most s.data.toList = none) := Lib.hid (numT_bad (by rw [← hd]; exact fun h => h01 ⟨h.1, h.2.1⟩))
    have hin : inB 1 (ds.size : Int) most = false := by
      cases hb : inB 1 (ds.size : Int) most with
      | false => rfl
      | true =>
        refine absurd ?_ h01
        unfold inB at hb
        simp at hb
        exact ⟨fun e => by rw [e, List.length_nil] at hsz; omega, by omega⟩
    have HI1 := Lib.hid fun W => HI.out (ds.size : Int) W
    rw [hin] at HI1
    clear hin h01 hds hdd hsz hss hT hd
    generalize numT most s.data.toList = r at *
    go_enter Tryz.func24, Tryz.ntmps24
    go_wp2_with fail
    refine (HC.out _).mono ?_
    rintro e w' ⟨rfl, rfl⟩
    go_wp2_with fail
    refine (HI1.out _).mono ?_
    rintro e w' ⟨rfl, rfl⟩
    go_wp2
    go_ret2
    exact ⟨0, by rw [HR.out] <;> rfl, fun q hq => (by rw [HR.out] at hq; cases hq), Below.refl _ _⟩
theorem numsK_snoc0 {xs : List (List UInt8)} (x : List UInt8) (h : numsK xs = none) : numsK (xs ++ [x]) = none := by
  induction xs with
  | nil => cases h
  | cons y r ih =>
    rw [List.cons_append]
    rw [numsK] at h ⊢
    cases hy : numT 15 y with
    | none => rfl
    | some m =>
      cases hr : numsK r with
      | none => simp only [ih hr]
      | some ms => simp only [hy, hr] at h; cases h
set_option maxHeartbeats 4000000 in
set_option maxRecDepth 100000 in
theorem RNumbersIn_any (v : Value) (l : List ByteArray) (w : World) (hT : TxW w) (rl : RecR TS w 0 v l) (hl : l.length ≤ 1000000) (hs : ∀ x ∈ l, x.size ≤ 1000000) :
    Calls Tryz.prog 58 #[v, .int .i64 15] w fun e w' => ∃ u ns, e = .returned (.tuple #[u, .bool (numsK (l.map (·.data.toList))).isSome]) ∧ Own w' w.heap.size u ns ∧ ns.length = l.length ∧ (∀ q, numsK (l.map (·.data.toList)) = some q → q = ns) ∧ Below w.heap.size w w' := by
  obtain ⟨a, cap, rfl, hc1, hc2⟩ := rl.form
  have RL := Lib.hid rl
  have HS := Lib.hid hs
  have HT := Lib.hid hT
  clear rl hs hT
  go_enter Tryz.func58, Tryz.ntmps58
  go_wp2_with fail
  go_loopw [6, 7, 14] (fun v b i wr => ∃ (k : Nat) (ns : List Int) (ok : Bool), k ≤ l.length ∧ i = .int .i64 k ∧ b = .bool ok ∧ Own wr w.heap.size v ns ∧ Hid (ns.length = k ∧ (numsK ((l.take k).map (·.data.toList))).isSome = ok ∧ ∀ q, numsK ((l.take k).map (·.data.toList)) = some q → q = ns) ∧ Below w.heap.size w wr) (fun _ _ i _ => l.length - (intOf i).toNat)
  case atStart => exact ⟨0, [], true, Nat.zero_le _, rfl, rfl, Own.nil _ _, Lib.hid ⟨rfl, rfl, fun q hq => by simp only [List.take_zero, List.map_nil, numsK, Option.some.injEq] at hq; exact hq.symm⟩, Below.refl _ _⟩
  case round =>
    obtain ⟨k, ns, ok, hk, rfl, rfl, hO, hP, hB⟩ := hrel
    by_cases hlt : k < l.length
    · obtain ⟨x, hx⟩ : ∃ x, l[k]? = some x := ⟨_, List.getElem?_eq_getElem hlt⟩
      obtain ⟨b, o, rfl, _, hb, c0⟩ := strsT_at (RL.out.below hB) hx
      have hw1 : IntKind.i64.wrap ((k : Int) + 1) = ((k + 1 : Nat) : Int) := by rw [IntWalk.i64_in _ (by omega)]; omega
      have HN := Lib.hid fun (W : World) (hW : TxW W) => RNumber_any x 15 W hW (HS.out x (List.mem_of_getElem? hx)) (by omega)
      have HX := Lib.hid hx
      clear hx
      obtain ⟨r, hr⟩ : ∃ r, r = numT 15 x.data.toList := ⟨_, rfl⟩
      rw [← hr] at HN
      have HR := Lib.hid hr.symm
      clear hr
      obtain ⟨bo, hbo⟩ : ∃ bo, bo = r.isSome := ⟨_, rfl⟩
      rw [← hbo] at HN
      have HBO := Lib.hid hbo
      clear hbo
      have hTk : TxW wr := HT.out.below hB
      go_wp2_with fail
      refine (HN.out _ hTk).mono ?_
      rintro e w1 ⟨n, rfl, hn, hb1⟩
      have HNN := Lib.hid hn
      have hO1 := hO.below hb1
      have hB1 := Bl.trans hB hb1
      have hz1 := hB1.size
      clear hb1 hO hB c0 hn hTk
      go_wp2_with (at_builtin; refine wp_app_int rfl _ _ rfl w.heap.size _ ns rfl (hO1.alloc _) w1.heap.size 1 n rfl (by rw [blk_cell (blk_new w1 _) 0]; rfl) (by have := hP.out.1; omega) (by simp; omega) ?_)
      intro v' w3 hO3 hA3 hb3
      have HP : Hid ((ns ++ [n]).length = k + 1 ∧ (numsK ((l.take (k + 1)).map (·.data.toList))).isSome = (ok && bo) ∧ ∀ q, numsK ((l.take (k + 1)).map (·.data.toList)) = some q → q = ns ++ [n]) := Lib.hid (by
        rw [List.take_add_one, HX.out, List.map_append]
        refine ⟨by rw [List.length_append, hP.out.1]; rfl, ?_⟩
        have h2 := hP.out.2
        rw [HBO.out]
        cases hm : numsK ((l.take k).map (·.data.toList)) with
        | none =>
          rw [hm] at h2
          have := numsK_snoc0 x.data.toList hm
          simp only [Option.toList_some, List.map_cons, List.map_nil]
          rw [this]
          exact ⟨by rw [← h2.1]; rfl, fun q hq => by cases hq⟩
        | some ms =>
          rw [hm] at h2
          have e1 := h2.2 ms rfl
          have h3 := HNN.out
          have h4 := HR.out
          simp only [Option.toList_some, List.map_cons, List.map_nil]
          cases r with
          | none =>
            rw [numsK_bad h4 _ []]
            exact ⟨by simp, fun q hq => by cases hq⟩
          | some y =>
            rw [numsK_snoc hm _ h4]
            have e2 := h3 y rfl
            subst e1 e2
            exact ⟨by rw [← h2.1]; rfl, fun q hq => by injection hq with hq; exact hq.symm⟩)
      cases ok
      all_goals
        go_wp2
        go_roundw
        case rel => exact ⟨k + 1, ns ++ [n], _, by omega, by go_num, rfl, hO3, HP, (Bl.alloc hB1 _).trans hb3⟩
        case measure => simp [intOf]; omega
    · obtain rfl : k = l.length := by omega
      have hQ := hP.out
      rw [List.take_length] at hQ
      have HQ := Lib.hid hQ
      clear hQ
      go_wp2
      go_ret2
      exact ⟨_, by rw [HQ.out.2.1] <;> rfl, ns, hO, HQ.out.1, HQ.out.2.2, hB⟩
end Go.Proofs.YtihgnpobkpnipaaGreatDoor
namespace Go.Proofs.YtihgnpobkpnipaaGreatDoor
open Go.RowKit Go.Sort
theorem TxW.belowB {w w' : World} {B : Nat} (h : TxW w) (hb : Below B w w') (h1 : 3 < B) (h2 : 0 < B) : TxW w' := by
  refine ⟨?_, ?_⟩
  · have hgn : Tryz.prog.globalNamed "internal/strconv.uint64pow10" = some 3 := by kernel_rfl
    have ht := h.tab
    unfold Lib.TabIs World.var? at ht ⊢
    rw [hgn] at ht ⊢
    simp only [Option.bind_some] at ht ⊢
    rw [hb.block _ h1]
    exact ht
  · obtain ⟨m, hm⟩ := h.max
    exact ⟨m, (hb.cell (p := ⟨0, 0, none⟩) h2).trans hm⟩
end Go.Proofs.YtihgnpobkpnipaaGreatDoor
namespace Go.Proofs.YtihgnpobkpnipaaGreatDoor
open Go.RowKit Go.Sort
theorem drewN_below (w : World) (n : Nat) : Below w.heap.size w (w.drewN n) := Bl.drewN (Below.refl _ _) n
end Go.Proofs.YtihgnpobkpnipaaGreatDoor
namespace Go.Proofs.YtihgnpobkpnipaaGreatDoor
open Go.RowKit Go.Sort
theorem OwnP.base {w : World} {B B' : Nat} {v : Value} {l : List Pt} (h : OwnP w B v l) (hb : B' ≤ B) : OwnP w B' v l := by
  refine ⟨h.1, ?_⟩
  rcases h.2 with hn | ⟨g, cap, cur, hv, hb2, hg, rest⟩
  · exact .inl hn
  · exact .inr ⟨g, cap, cur, hv, by omega, hg, rest⟩
end Go.Proofs.YtihgnpobkpnipaaGreatDoor
