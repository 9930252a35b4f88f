/- Texts of the proof of a law, put together, part 28 of 31. Conditions: none beyond those that each theorem names. -/
import Derived.Test.YtjegfebolhjghaaGreatDoorPg4
import Derived.Test.YtjegfebolhjghaaGreatDoorPg22
import Derived.Test.YtjegfebolhjghaaGreatDoorPg26
import Derived.Test.YtjegfebolhjghaaGreatDoorPg27
namespace Go.Proofs.YtjegfebolhjghaaGreatDoor
open Go.RowKit Go.Sort
theorem baC_bsOf (b : ByteArray) : baOf (bsOf b) = b := by unfold baOf bsOf; simp
theorem bsC_inj {a b : ByteArray} (h : bsOf a = bsOf b) : a = b := by rw [← baC_bsOf a, h, baC_bsOf]
theorem hasP_of {ps : List Prt} {k : ByteArray} (h : bsOf k ∈ keysP ps) : hasP ps k = true := by
  obtain ⟨x, hx, he⟩ := List.mem_map.1 h
  have h2 : x.1 = k := by rw [← baC_bsOf x.1, he, baC_bsOf]
  unfold hasP
  exact List.any_eq_true.2 ⟨x, hx, by rw [h2]; simp⟩
theorem known0 {ps : List Prt} {l : List Alt} (h : catsF ps l = 0) {ks : List ByteArray} (hk : ∀ k ∈ ks, bsOf k ∈ keysP ps) : knownF ps l ks = 0 := by
  unfold knownF
  rw [if_neg (by simp [h]), if_pos (List.all_eq_true.2 fun k hk2 => hasP_of (hk k hk2))]
theorem known1 {ps : List Prt} {l : List Alt} (h : catsF ps l = 0) {k : ByteArray} (hk : bsOf k ∈ keysP ps) : knownF ps l [k] = 0 :=
  known0 h fun k2 h2 => by rw [List.mem_singleton.1 h2]; exact hk
theorem keys_in {ps : List Prt} {x : Prt} (h : x ∈ ps) : bsOf x.1 ∈ keysP ps := List.mem_map.2 ⟨x, h, rfl⟩
theorem dirS_0 {ps : List Prt} {l : List Alt} (h : catsF ps l = 0) {k : ByteArray} (hk : bsOf k ∈ keysP ps) : dirS ps l k = (nextL l (bsOf k)).map baOf := by unfold dirS; rw [if_pos (known1 h hk)]
theorem allS_0 {ps : List Prt} {l : List Alt} (h : catsF ps l = 0) {k : ByteArray} (hk : bsOf k ∈ keysP ps) : allS ps l k = (allB ps l (bsOf k)).map baOf := by unfold allS; rw [if_pos (known1 h hk)]
theorem allB_len {ps : List Prt} {l : List Alt} (h : catsF ps l = 0) {a : Bs} (ha : a ∈ keysP ps) : (allB ps l a).length ≤ ps.length := by
  obtain ⟨j, h1, _, h3, h4⟩ := bfsR_law (nextL l) a (keysP ps) ha fun p s hs => (next_in h hs).2.1
  have h5 : (allB ps l a).Nodup := by
    unfold allB
    exact Sm.keys_nodup (h1.ok.del _)
  have h6 := List.Nodup.length_le_of_subset h5 (l₂ := keysP ps) fun s hs => by
    have := ((allB_mem h ha s).1 hs).2
    exact h3 s ((h1.mem s).1 ((h4 s).2 this))
  have h7 : (keysP ps).length = ps.length := List.length_map _
  omega
theorem has_map {L : List Bs} {k : ByteArray} : Lib.containsS (L.map baOf) k = decide (bsOf k ∈ L) := by
  rw [Bool.eq_iff_iff, Lib.containsS_iff, decide_eq_true_eq, List.mem_map]
  constructor
  · rintro ⟨s, hs, rfl⟩
    rw [bsOf_baOf]
    exact hs
  · intro h
    exact ⟨_, h, baC_bsOf k⟩
/-- the answer of a call that gives a list of keys. -/
def VDr (L : List ByteArray) : Value → World → Prop := fun v w => ∃ v', v = .tuple #[v', .int .i64 0] ∧ RecR TS w 0 v' L
theorem VDr.low {L : List ByteArray} {v : Value} {w w' : World} (h : VDr L v w) (hb : Below w.heap.size w w') : VDr L v w' := by
  obtain ⟨v', h1, h2⟩ := h
  exact ⟨v', h1, h2.below hb⟩
/-- the catalogue of a law: its box and what it holds. -/
structure CatB (w : World) (C B : Nat) (vp va : Value) (ps : List Prt) (l : List Alt) : Prop where
  c : w.heap[C]? = some (.cells #[vp, va] 29 (0, 0))
  p : OwnR TPt w B vp ps
  a : OwnR TAl w B va l
theorem CatB.low {w w' : World} {C B : Nat} {vp va : Value} {ps : List Prt} {l : List Alt} (h : CatB w C B vp va ps l) (hb : Below w.heap.size w w') : CatB w' C B vp va ps l := ⟨blk_below h.c hb, h.p.below hb, h.a.below hb⟩
theorem CatB.gr {w w' : World} {C B s : Nat} {vp va : Value} {ps : List Prt} {l : List Alt} (h : CatB w C B vp va ps l) (hC : C ≠ s) (hs : s < B) (hb : w.grownBy w' (some s)) : CatB w' C B vp va ps l := ⟨Gr.blk hb h.c hC, h.p.grown hb hs, h.a.grown hb hs⟩
theorem CatB.r {w : World} {C B : Nat} {vp va : Value} {ps : List Prt} {l : List Alt} (h : CatB w C B vp va ps l) : CatR w vp va ps l := ⟨h.p.rec0, h.a.rec0⟩
end Go.Proofs.YtjegfebolhjghaaGreatDoor
namespace Go.Proofs.YtjegfebolhjghaaGreatDoor
open Go.RowKit Go.Sort
theorem grp_out {mem : Bs → List Bs} {P : List Bs → Prop} : ∀ (ks : List Bs) (x : Gps), (∀ g ∈ x.out, P g) → (∀ k ∈ ks, P (mem k)) → ∀ g ∈ (grpL mem x ks).out, P g
  | [], x, h, _ => h
  | k :: r, x, h, h2 => by
    rw [grpL]
    refine grp_out r _ ?_ fun j hj => h2 j (List.mem_cons_of_mem _ hj)
    unfold grp1
    split
    · exact h
    · intro g hg
      simp only at hg
      split at hg
      · rcases List.mem_append.1 hg with q | q
        · exact h g q
        · rw [List.mem_singleton.1 q]; exact h2 k List.mem_cons_self
      · exact h g hg
theorem grps_small {ps : List Prt} {l : List Alt} (h : catsF ps l = 0) {ks : List Bs} (hks : ∀ k, k ∈ ks ↔ nextL l k ≠ []) : ∀ g ∈ (grpL (memK ps l) ⟨[], []⟩ ks).out, g.length ≤ ps.length :=
  grp_out ks _ (fun g hg => (List.not_mem_nil hg).elim) fun k hk => by
    obtain ⟨t, ht⟩ := List.exists_mem_of_ne_nil _ ((hks k).1 hk)
    have h1 := (stK_ok h (next_in h ht).1).2.2.2
    unfold memK
    refine Nat.le_trans (List.length_filter_le _ _) ?_
    have : (stK ps l k).keys.length = (stK ps l k).length := List.length_map _
    omega
/-- both keys lie in one of the groups. -/
def bothG (G : List (List Bs)) (a b : ByteArray) : Bool := G.any fun g => decide (bsOf a ∈ g) && decide (bsOf b ∈ g)
def IdxG (G : List (List Bs)) (a b : ByteArray) (r : Int) : Prop := (bothG G a b = true → 0 ≤ r) ∧ (bothG G a b = false → r = -1)
theorem bothG_iff {G : List (List Bs)} {a b : ByteArray} : bothG G a b = true ↔ ∃ g ∈ G, bsOf a ∈ g ∧ bsOf b ∈ g := by
  unfold bothG
  simp
set_option maxHeartbeats 2000000 in
theorem Both_any (g : List Bs) (v : Value) (a b : ByteArray) (P Q : Nat) (w : World) (hl : g.length ≤ 100000) (hr : RecR TS w 0 v (g.map baOf))
    (ha : w.cell? ⟨P, 0, none⟩ = some (.string a)) (hb : w.cell? ⟨Q, 0, none⟩ = some (.string b)) (_lP : P < w.heap.size) (_lQ : Q < w.heap.size) :
    Calls Tryz.prog 15 #[v, .pointer (some ⟨P, 0, none⟩), .pointer (some ⟨Q, 0, none⟩)] w fun e w' => e = .returned (.bool (decide (bsOf a ∈ g) && decide (bsOf b ∈ g))) ∧ w = w' := by
  have H1 := HasS_any (g.map baOf) v a w (by rw [List.length_map]; exact hl) hr
  have H2 := HasS_any (g.map baOf) v b w (by rw [List.length_map]; exact hl) hr
  rw [has_map] at H1 H2
  generalize decide (bsOf a ∈ g) = p at *
  generalize decide (bsOf b ∈ g) = q at *
  have HH1 := Lib.hid H1
  have HH2 := Lib.hid H2
  clear H1 H2 hr
  go_enter Tryz.func15, Tryz.ntmps15
  go_wp2_with fail
  refine HH1.out.mono ?_
  rintro e w' ⟨rfl, rfl⟩
  cases p
  · go_wp2
    go_ret
    exact ⟨rfl, rfl⟩
  · go_wp2_with fail
    refine HH2.out.mono ?_
    rintro e w' ⟨rfl, rfl⟩
    go_wp2
    go_ret
    exact ⟨by simp, rfl⟩
theorem hdr_at {w : World} {B : Nat} {a : Option Addr} {n cap : Nat} {hs : List Hdr} {G : List (List Bs)} (h : OwnG w B (.slice a n cap) hs G) {k : Nat} {x : Hdr} {g : List Bs} (hx : hs[k]? = some x) (hg : G[k]? = some g) :
    ∃ b o, a = some ⟨b, o, none⟩ ∧ b < w.heap.size ∧ w.cell? ⟨b, o + k, none⟩ = some (hdrV x) ∧ RecR TS w 0 (hdrV x) (g.map baOf) := by
  obtain ⟨b, o, rfl, h1, h2, h3⟩ := h.own.rec0.at THs.ok.len hx THs.ok.pos
  refine ⟨b, o, rfl, h2, ?_, (h.row k x g hx hg).rec0⟩
  have := h3 0 _ rfl
  simpa [THs] using this
set_option maxHeartbeats 4000000 in
theorem IndexG_any (hs : List Hdr) (G : List (List Bs)) (v : Value) (a b : ByteArray) (P Q B : Nat) (w : World) (hl : ∀ g ∈ G, g.length ≤ 100000) (hG : OwnG w B v hs G)
    (ha : w.cell? ⟨P, 0, none⟩ = some (.string a)) (hb : w.cell? ⟨Q, 0, none⟩ = some (.string b)) (lP : P < w.heap.size) (lQ : Q < w.heap.size) :
    Calls Tryz.prog 49 #[v, .func (.func 15) #[] #[.pointer (some ⟨P, 0, none⟩), .pointer (some ⟨Q, 0, none⟩)]] w fun e w' => (∃ r : Int, e = .returned (.int .i64 r) ∧ IdxG G a b r) ∧ w = w' := by
  obtain ⟨oa, cap, rfl, hc1, hc2⟩ := hG.own.form
  have HCL := Lib.hid fun (g : List Bs) (u : Value) (hg : g ∈ G) (hr : RecR TS w 0 u (g.map baOf)) => Both_any g u a b P Q w (hl g hg) hr ha hb lP lQ
  have HG := Lib.hid hG
  have HLEN := Lib.hid hG.len
  have HBD := Lib.hid (And.intro hc1 hc2)
  obtain ⟨n, hn⟩ : ∃ n, n = hs.length := ⟨_, rfl⟩
  rw [← hn]
  have HN := Lib.hid hn
  have hnb : n ≤ 9223372036854775807 := by omega
  clear hl hG ha hb hn hc1 hc2
  go_enter Tryz.func49, Tryz.ntmps49
  go_wp2
  go_loopw [8] (fun i wr => ∃ k : Nat, k ≤ n ∧ i = .int .i64 k ∧ Hid (bothG (G.take k) a b = false) ∧ wr = w) (fun i _ => n - (intOf i).toNat)
  case atStart => exact ⟨0, Nat.zero_le _, rfl, Lib.hid rfl, rfl⟩
  case round =>
    obtain ⟨k, hk, rfl, HT, rfl⟩ := hrel
    by_cases hlt : k < n
    · obtain ⟨x, hx⟩ : ∃ x, hs[k]? = some x := ⟨_, List.getElem?_eq_getElem (by rw [← HN.out]; exact hlt)⟩
      obtain ⟨g, hg⟩ : ∃ g, G[k]? = some g := ⟨_, List.getElem?_eq_getElem (by rw [← HLEN.out, ← HN.out]; exact hlt)⟩
      have hG' := HG.out
      obtain ⟨b2, o2, rfl, lb2, c0, hr⟩ := hdr_at hG' hx hg
      obtain ⟨u, hu⟩ : ∃ u, u = hdrV x := ⟨_, rfl⟩
      rw [← hu] at c0 hr
      have HC := Lib.hid (HCL.out g u (List.mem_of_getElem? hg) hr)
      have HTK : Hid (bothG (G.take (k + 1)) a b = (decide (bsOf a ∈ g) && decide (bsOf b ∈ g))) := Lib.hid (by
        have h1 := HT.out
        unfold bothG at h1 ⊢
        rw [List.take_add_one, hg, List.any_append, h1]
        simp)
      have HIN : Hid ((decide (bsOf a ∈ g) && decide (bsOf b ∈ g)) = true → bothG G a b = true) := Lib.hid fun h => by
        unfold bothG
        exact List.any_eq_true.2 ⟨g, List.mem_of_getElem? hg, h⟩
      have hw1 : IntKind.i64.wrap ((k : Int) + 1) = ((k + 1 : Nat) : Int) := by rw [IntWalk.i64_in _ (by omega)]; omega
      obtain ⟨q, hq⟩ : ∃ q, q = (decide (bsOf a ∈ g) && decide (bsOf b ∈ g)) := ⟨_, rfl⟩
      rw [← hq] at HC HTK HIN
      clear hx hg hG' hr hu hq
      go_wp2_with fail
      refine HC.out.mono ?_
      rintro e w2 ⟨rfl, rfl⟩
      cases q
      · go_wp2
        go_roundw
        case rel => exact ⟨k + 1, by omega, by go_num, HTK, trivial⟩
        case measure => simp [intOf]; omega
      · have HR : IdxG G a b (k : Int) := ⟨fun _ => by omega, fun h => by rw [HIN.out rfl] at h; cases h⟩
        go_wp2
        go_ret
        exact ⟨⟨_, rfl, HR⟩, rfl⟩
    · obtain rfl : k = n := by omega
      have HR : IdxG G a b (-1) := by
        have h1 := HT.out
        rw [List.take_of_length_le (by rw [← HLEN.out, ← HN.out]; exact Nat.le_refl _)] at h1
        exact ⟨fun h => (by rw [h1] at h; cases h), fun _ => rfl⟩
      go_wp2
      go_ret
      exact ⟨⟨_, rfl, HR⟩, rfl⟩
set_option maxHeartbeats 2000000 in
theorem ContG_any (hs : List Hdr) (G : List (List Bs)) (v : Value) (a b : ByteArray) (P Q B : Nat) (w : World) (hl : ∀ g ∈ G, g.length ≤ 100000) (hG : OwnG w B v hs G)
    (ha : w.cell? ⟨P, 0, none⟩ = some (.string a)) (hb : w.cell? ⟨Q, 0, none⟩ = some (.string b)) (lP : P < w.heap.size) (lQ : Q < w.heap.size) :
    Calls Tryz.prog 14 #[v, .func (.func 15) #[] #[.pointer (some ⟨P, 0, none⟩), .pointer (some ⟨Q, 0, none⟩)]] w fun e w' => e = .returned (.bool (bothG G a b)) ∧ w = w' := by
  have HI0 := IndexG_any hs G v a b P Q B w hl hG ha hb lP lQ
  unfold IdxG at HI0
  obtain ⟨oa, cap, rfl, _, _⟩ := hG.own.form
  generalize bothG G a b = z at *
  have HI := Lib.hid HI0
  clear HI0
  clear hl hG ha hb
  go_enter Tryz.func14, Tryz.ntmps14
  go_wp2_with fail
  refine HI.out.mono ?_
  rintro e w2 ⟨⟨r, rfl, h1, h2⟩, rfl⟩
  cases z
  · have h3 := h2 rfl
    subst h3
    clear h1 h2
    go_wp2
    go_ret
    exact ⟨rfl, rfl⟩
  · have h3 := h1 rfl
    clear h1 h2
    go_wp2
    go_ret
    exact ⟨by simp, rfl⟩
end Go.Proofs.YtjegfebolhjghaaGreatDoor
