/- Texts of the proof of a law, put together, part 14 of 41. Conditions: none beyond those that each theorem names. -/
import Derived.Test.YtihgnpobkpnipaaGreatDoorQz1
import Derived.Test.YtihgnpobkpnipaaGreatDoorQz3
import Derived.Test.YtihgnpobkpnipaaGreatDoorQz11
import Derived.Test.YtihgnpobkpnipaaGreatDoorQz12
import Derived.BigQuiet
import Derived.Deep.Cut
namespace Go.Proofs.YtihgnpobkpnipaaGreatDoor
open Go.RowKit Go.Sort
def updR {β : Type} (f : ByteArray → β) (k : ByteArray) (v : β) : ByteArray → β := fun x => if x = k then v else f x
theorem updR_at {β : Type} (f : ByteArray → β) (k : ByteArray) (v : β) : updR f k v k = v := if_pos rfl
theorem updR_ne {β : Type} (f : ByteArray → β) {k x : ByteArray} (v : β) (h : x ≠ k) : updR f k v x = f x := if_neg h
abbrev Fed.at (e : Fed) : Int := e.1
abbrev Fed.kd (e : Fed) : Int := e.2.1
abbrev Fed.fd (e : Fed) : ByteArray := e.2.2.1
abbrev Fed.rl (e : Fed) : ByteArray := e.2.2.2.1
abbrev Fed.mn (e : Fed) : Int := e.2.2.2.2.1
abbrev Fed.bd (e : Fed) : ByteArray := e.2.2.2.2.2
/-- what was taken: by which event, when, for which board, from which feeder and reel, how many. -/
abbrev Tkn := Int × Int × ByteArray × ByteArray × ByteArray × Int
structure Mdl where
  left : Lf
  part : ByteArray → ByteArray
  row : ByteArray → List ByteArray
  pos : ByteArray → ByteArray
  log : List Tkn
/-- why an event is refused. -/
def refM (A : Mdl) (e : Fed) : Int :=
  if e.kd = 1 then (if A.row e.fd = [] ∧ A.pos e.rl = ByteArray.empty then 0 else 11)
  else if e.kd = 2 then (if A.row e.fd = [] then 8 else if A.pos e.rl ≠ ByteArray.empty then 11 else if A.part e.rl ≠ A.part ((A.row e.fd).headD ByteArray.empty) then 10 else 0)
  else if e.kd = 3 then (if A.row e.fd = [] then 8 else 0)
  else if e.kd = 4 then (if A.row e.fd = [] then 8 else if sumL A.left (A.row e.fd) < e.mn then 16 else 0)
  else 0
/-- what a use leaves and takes. -/
def useT (A : Mdl) (e : Fed) : Lf × List ByteArray × List (ByteArray × Int) := takeO e.mn.toNat A.left (A.row e.fd) []
def logU (i : Int) (e : Fed) (lg : List (ByteArray × Int)) : List Tkn := lg.reverse.map fun p => (i, e.at, e.bd, e.fd, p.1, p.2)
def memR (x : ByteArray) (l : List ByteArray) : Bool := l.any fun y => decide (y = x)
theorem memR_iff {x : ByteArray} {l : List ByteArray} : memR x l = true ↔ x ∈ l := by
  unfold memR
  rw [List.any_eq_true]
  constructor
  · rintro ⟨y, hy, h⟩; rw [← of_decide_eq_true h]; exact hy
  · intro h; exact ⟨x, h, decide_eq_true rfl⟩
/-- where reels lie when a row has become shorter. -/
def posU (pos : ByteArray → ByteArray) (l l' : List ByteArray) : ByteArray → ByteArray := fun x => if (memR x l && !memR x l') = true then ByteArray.empty else pos x
theorem posU_gone {pos : ByteArray → ByteArray} {l l' : List ByteArray} {x : ByteArray} (h : x ∈ l) (h' : x ∉ l') : posU pos l l' x = ByteArray.empty := by
  unfold posU
  rw [if_pos]
  rw [memR_iff.2 h, Bool.true_and]
  cases hb : memR x l' with
  | false => rfl
  | true => exact absurd (memR_iff.1 hb) h'
theorem posU_stay {pos : ByteArray → ByteArray} {l l' : List ByteArray} {x : ByteArray} (h : ¬ (x ∈ l ∧ x ∉ l')) : posU pos l l' x = pos x := by
  unfold posU
  rw [if_neg]
  intro hb
  simp only [Bool.and_eq_true, Bool.not_eq_true'] at hb
  refine h ⟨memR_iff.1 hb.1, fun hm => ?_⟩
  rw [memR_iff.2 hm] at hb
  cases hb.2
/-- an event is done. -/
def doM (A : Mdl) (i : Int) (e : Fed) : Mdl :=
  if e.kd = 1 ∨ e.kd = 2 then ⟨A.left, A.part, updR A.row e.fd (A.row e.fd ++ [e.rl]), updR A.pos e.rl e.fd, A.log⟩
  else if e.kd = 3 then ⟨A.left, A.part, updR A.row e.fd [], posU A.pos (A.row e.fd) [], A.log⟩
  else if e.kd = 4 then ⟨(useT A e).1, A.part, updR A.row e.fd (useT A e).2.1, posU A.pos (A.row e.fd) (useT A e).2.1, A.log ++ logU i e (useT A e).2.2⟩
  else ⟨updL A.left e.rl e.mn, A.part, A.row, A.pos, A.log⟩
def stepM (A : Mdl) (i : Int) (e : Fed) : Mdl := if refM A e = 0 then doM A i e else A
/-- an event as the checks let it through. -/
structure FedR (e : Fed) : Prop where
  k1 : 1 ≤ e.kd
  k5 : e.kd ≤ 5
  fd : e.fd.size ≤ 1000
  rl : e.rl.size ≤ 1000
  bd : e.bd.size ≤ 1000
  m0 : 0 ≤ e.mn
  m1 : e.mn ≤ 100000
  use : e.kd = 4 → 1 ≤ e.mn
  fnz : e.kd ≠ 5 → e.fd ≠ ByteArray.empty
structure InvM (A : Mdl) (n : Nat) : Prop where
  lf : ∀ x, 0 ≤ A.left x ∧ A.left x ≤ 100000
  nd : ∀ f, (A.row f).Nodup
  in1 : ∀ f x, x ∈ A.row f → A.pos x = f
  in2 : ∀ x, A.pos x ≠ ByteArray.empty → x ∈ A.row (A.pos x)
  nz : A.row ByteArray.empty = []
  sz : ∀ f x, x ∈ A.row f → x.size ≤ 1000
  fz : ∀ x, (A.pos x).size ≤ 1000
  ln : ∀ f, (A.row f).length ≤ n
  ll : A.log.length ≤ n * n
theorem InvM.mono {A : Mdl} {n m : Nat} (h : InvM A n) (hm : n ≤ m) : InvM A m :=
  ⟨h.lf, h.nd, h.in1, h.in2, h.nz, h.sz, h.fz, fun f => Nat.le_trans (h.ln f) hm, Nat.le_trans h.ll (Nat.mul_le_mul hm hm)⟩
theorem takeP_done {fuel : Nat} {n : Int} {left : Lf} {l : List ByteArray} {lg : List (ByteArray × Int)} (h : n ≤ 0) : takeP fuel n left l lg = (left, l, lg) := by
  cases fuel with
  | zero => rfl
  | succ f => rw [takeP.eq_def]; exact if_pos h
theorem takeP_nil {fuel : Nat} {n : Int} {left : Lf} {lg : List (ByteArray × Int)} : takeP fuel n left [] lg = (left, [], lg) := by
  cases fuel with
  | zero => rfl
  | succ f =>
    rw [takeP.eq_def]
    show (if n ≤ 0 then _ else _) = _
    split <;> rfl
theorem takeP_cons {fuel : Nat} {n : Int} {left : Lf} {k : ByteArray} {r : List ByteArray} {lg : List (ByteArray × Int)} (h : ¬ n ≤ 0) : takeP (fuel + 1) n left (k :: r) lg = takeP fuel (n - min n (left k)) (updL left k (left k - min n (left k))) (dropE (updL left k (left k - min n (left k))) (k :: r)) ((k, min n (left k)) :: lg) := by
  rw [takeP.eq_def]
  exact if_neg h
theorem takeP_le : ∀ (fuel : Nat) (n : Int) (left : Lf) (l : List ByteArray) (lg : List (ByteArray × Int)), (∀ x, 0 ≤ left x) → ∀ x, 0 ≤ (takeP fuel n left l lg).1 x ∧ (takeP fuel n left l lg).1 x ≤ left x
  | 0, _, _, _, _, h, x => ⟨h x, Int.le_refl _⟩
  | fuel + 1, n, left, l, lg, h, x => by
    by_cases hn : n ≤ 0
    · rw [takeP_done hn]; exact ⟨h x, Int.le_refl _⟩
    · cases l with
      | nil => rw [takeP_nil]; exact ⟨h x, Int.le_refl _⟩
      | cons k r =>
        rw [takeP_cons hn]
        have hk := h k
        have h' : ∀ y, 0 ≤ updL left k (left k - min n (left k)) y := fun y => by
          unfold updL
          split
          · omega
          · exact h y
        have ih := takeP_le fuel (n - min n (left k)) _ (dropE (updL left k (left k - min n (left k))) (k :: r)) ((k, min n (left k)) :: lg) h' x
        refine ⟨ih.1, Int.le_trans ih.2 ?_⟩
        unfold updL
        split
        · rename_i e; rw [e]; omega
        · exact Int.le_refl _
theorem takeP_suffix : ∀ (fuel : Nat) (n : Int) (left : Lf) (l : List ByteArray) (lg : List (ByteArray × Int)), (takeP fuel n left l lg).2.1 <:+ l
  | 0, _, _, _, _ => List.suffix_refl _
  | fuel + 1, n, left, l, lg => by
    by_cases hn : n ≤ 0
    · rw [takeP_done hn]; exact List.suffix_refl _
    · cases l with
      | nil => rw [takeP_nil]; exact List.suffix_refl _
      | cons k r =>
        rw [takeP_cons hn]
        exact (takeP_suffix fuel _ _ _ _).trans (dropE_suffix _ _)
theorem head_pos {left : Lf} {k : ByteArray} {r : List ByteArray} {n : Int} (hn : 0 < n) (hd : dropE left (k :: r) = k :: r) (hs : n ≤ sumL left (k :: r)) (hk0 : 0 ≤ left k) : 0 < left k := by
  cases r with
  | nil => simp only [sumL] at hs; omega
  | cons b t =>
    by_cases hz : left k = 0
    · have e : dropE left (k :: b :: t) = dropE left (b :: t) := by show (if left k = 0 then _ else _) = _; rw [if_pos hz]
      rw [e] at hd
      have hl := (dropE_suffix left (b :: t)).length_le
      rw [hd] at hl
      simp at hl
      omega
    · omega
theorem takeP_log : ∀ (fuel : Nat) (n : Int) (left : Lf) (l : List ByteArray) (lg : List (ByteArray × Int)), dropE left l = l → n ≤ sumL left l → (∀ x ∈ l, 0 ≤ left x) → l.Nodup → (takeP fuel n left l lg).2.2.length ≤ lg.length + l.length
  | 0, _, _, _, _, _, _, _, _ => Nat.le_add_right _ _
  | fuel + 1, n, left, l, lg, hd, hs, h0, hnd => by
    by_cases hn : n ≤ 0
    · rw [takeP_done hn]; exact Nat.le_add_right _ _
    · cases l with
      | nil => rw [takeP_nil]; exact Nat.le_add_right _ _
      | cons k r =>
        rw [takeP_cons hn]
        have hk0 := h0 k (List.mem_cons_self ..)
        have hkp := head_pos (by omega) hd hs hk0
        have hkr : k ∉ r := (List.nodup_cons.1 hnd).1
        by_cases hle : n ≤ left k
        · have e : n - min n (left k) ≤ 0 := by omega
          rw [takeP_done e]
          simp
        · have hm : min n (left k) = left k := by omega
          rw [hm]
          cases r with
          | nil => simp only [sumL] at hs; omega
          | cons b t =>
            have e : dropE (updL left k (left k - left k)) (k :: b :: t) = dropE (updL left k (left k - left k)) (b :: t) := by
              show (if updL left k _ k = 0 then _ else _) = _
              rw [updL_at, if_pos (by omega)]
            rw [e]
            have hsf := dropE_suffix (updL left k (left k - left k)) (b :: t)
            have hl := hsf.length_le
            have hsum : sumL (updL left k (left k - left k)) (b :: t) = sumL left (b :: t) := sumL_upd left k _ (b :: t) hkr
            have h1 : sumL left (k :: b :: t) = left k + sumL left (b :: t) := rfl
            have ih := takeP_log fuel (n - left k) (updL left k (left k - left k)) (dropE (updL left k (left k - left k)) (b :: t)) ((k, left k) :: lg) (dropE_idem _ _) (by rw [dropE_sum, hsum]; omega)
              (fun x hx => by
                have hx' := hsf.subset hx
                rw [updL_ne left _ (fun e => hkr (by rw [← e]; exact hx'))]
                exact h0 x (List.mem_cons_of_mem _ hx')) ((List.nodup_cons.1 hnd).2.sublist hsf.sublist)
            simp only [List.length_cons] at ih hl ⊢
            omega
/-- a use, reel by reel. -/
theorem useT_P {A : Mdl} {n : Nat} (h : InvM A n) {e : Fed} (hs : e.mn ≤ sumL A.left (A.row e.fd)) (h0 : 0 ≤ e.mn) : useT A e = takeP e.mn.toNat e.mn A.left (dropE A.left (A.row e.fd)) [] := by
  unfold useT
  rw [← takeO_drop]
  have hsf := dropE_suffix A.left (A.row e.fd)
  have hm : (e.mn.toNat : Int) = e.mn := Int.toNat_of_nonneg h0
  rw [takeO_P e.mn.toNat e.mn.toNat e.mn.toNat A.left _ [] (Nat.le_refl _) (Nat.le_refl _) (dropE_idem _ _) (by rw [dropE_sum, hm]; exact hs) (fun x _ => (h.lf x).1) ((h.nd e.fd).sublist hsf.sublist) (.inr fun x hx => by simp at hx), hm]
theorem useT_facts {A : Mdl} {n : Nat} (h : InvM A n) {e : Fed} (hs : e.mn ≤ sumL A.left (A.row e.fd)) (h0 : 0 ≤ e.mn) :
    (∀ x, 0 ≤ (useT A e).1 x ∧ (useT A e).1 x ≤ A.left x) ∧ (useT A e).2.1 <:+ A.row e.fd ∧ (useT A e).2.2.length ≤ (A.row e.fd).length := by
  rw [useT_P h hs h0]
  have hsf := dropE_suffix A.left (A.row e.fd)
  refine ⟨takeP_le _ _ _ _ _ fun x => (h.lf x).1, (takeP_suffix _ _ _ _ _).trans hsf, ?_⟩
  have := takeP_log e.mn.toNat e.mn A.left (dropE A.left (A.row e.fd)) [] (dropE_idem _ _) (by rw [dropE_sum]; exact hs) (fun x _ => (h.lf x).1) ((h.nd e.fd).sublist hsf.sublist)
  have h2 := hsf.length_le
  simp only [List.length_nil] at this
  omega
/-- a row cut, the reels that left it lie nowhere. -/
theorem InvM.cut {A : Mdl} {n : Nat} (h : InvM A n) {f : ByteArray} {l : List ByteArray} (hsf : l <:+ A.row f) {left : Lf} (hl : ∀ x, 0 ≤ left x ∧ left x ≤ 100000) {log : List Tkn} {m : Nat} (hm : n ≤ m) (hlog : log.length ≤ m * m) : InvM ⟨left, A.part, updR A.row f l, posU A.pos (A.row f) l, log⟩ m := by
  have hrow : ∀ g x, x ∈ updR A.row f l g → x ∈ A.row g := fun g x hx => by
    by_cases hg : g = f
    · subst hg; rw [updR_at] at hx; exact hsf.subset hx
    · rwa [updR_ne _ _ hg] at hx
  refine ⟨hl, fun g => ?_, fun g x hx => ?_, fun x hx => ?_, ?_, fun g x hx => h.sz g x (hrow g x hx), fun x => ?_, fun g => ?_, hlog⟩
  · show (updR A.row f l g).Nodup
    by_cases hg : g = f
    · subst hg; rw [updR_at]; exact (h.nd g).sublist hsf.sublist
    · rw [updR_ne _ _ hg]; exact h.nd g
  · have hx2 : x ∈ updR A.row f l g := hx
    have h1 := h.in1 g x (hrow g x hx2)
    show posU A.pos (A.row f) l x = g
    rw [posU_stay]
    · exact h1
    · rintro ⟨h2, h3⟩
      have h4 := h.in1 f x h2
      rw [h1] at h4
      subst h4
      rw [updR_at] at hx2
      exact h3 hx2
  · have hx2 : posU A.pos (A.row f) l x ≠ ByteArray.empty := hx
    show x ∈ updR A.row f l (posU A.pos (A.row f) l x)
    by_cases hc : x ∈ A.row f ∧ x ∉ l
    · rw [posU_gone hc.1 hc.2] at hx2; exact absurd rfl hx2
    · rw [posU_stay hc] at hx2 ⊢
      have h1 := h.in2 x hx2
      by_cases hg : A.pos x = f
      · rw [hg] at h1 ⊢
        rw [updR_at]
        exact Classical.byContradiction fun h3 => hc ⟨h1, h3⟩
      · rw [updR_ne _ _ hg]; exact h1
  · show updR A.row f l ByteArray.empty = []
    by_cases hg : ByteArray.empty = f
    · subst hg
      rw [updR_at]
      have := hsf
      rw [h.nz] at this
      exact List.suffix_nil.1 this
    · rw [updR_ne _ _ hg]; exact h.nz
  · show (posU A.pos (A.row f) l x).size ≤ 1000
    unfold posU
    split
    · exact Nat.zero_le _
    · exact h.fz x
  · show (updR A.row f l g).length ≤ m
    by_cases hg : g = f
    · subst hg; rw [updR_at]; exact Nat.le_trans hsf.length_le (Nat.le_trans (h.ln g) hm)
    · rw [updR_ne _ _ hg]; exact Nat.le_trans (h.ln g) hm
theorem InvM.step {A : Mdl} {n : Nat} (h : InvM A n) {e : Fed} (he : FedR e) (i : Int) : InvM (stepM A i e) (n + 1) := by
  have hmm : n * n ≤ (n + 1) * (n + 1) := Nat.mul_le_mul (by omega) (by omega)
  have hbig : n * n + n ≤ (n + 1) * (n + 1) := by rw [Nat.mul_succ, Nat.succ_mul]; omega
  unfold stepM
  by_cases h0 : refM A e = 0
  case neg => rw [if_neg h0]; exact h.mono (Nat.le_succ n)
  rw [if_pos h0]
  unfold refM at h0
  unfold doM
  have hput : e.kd ≠ 5 → A.pos e.rl = ByteArray.empty → InvM ⟨A.left, A.part, updR A.row e.fd (A.row e.fd ++ [e.rl]), updR A.pos e.rl e.fd, A.log⟩ (n + 1) := fun hk hp => by
    have hf := he.fnz hk
    have hno : ∀ g, e.rl ∉ A.row g := fun g hg => by
      have h1 := h.in1 g _ hg
      rw [hp] at h1
      rw [← h1, h.nz] at hg
      simp at hg
    refine ⟨h.lf, fun g => ?_, fun g x hx => ?_, fun x hx => ?_, ?_, fun g x hx => ?_, fun x => ?_, fun g => ?_, Nat.le_trans h.ll hmm⟩
    · show (updR A.row e.fd _ g).Nodup
      by_cases hg : g = e.fd
      · rw [hg, updR_at, List.nodup_append]
        exact ⟨h.nd _, by simp, fun a ha b hb => by rw [List.mem_singleton.1 hb]; exact fun e1 => hno _ (e1 ▸ ha)⟩
      · rw [updR_ne _ _ hg]; exact h.nd g
    · have hx2 : x ∈ updR A.row e.fd (A.row e.fd ++ [e.rl]) g := hx
      show updR A.pos e.rl e.fd x = g
      by_cases hg : g = e.fd
      · rw [hg, updR_at, List.mem_append, List.mem_singleton] at hx2
        rcases hx2 with hx2 | rfl
        · rw [updR_ne _ _ (fun e1 => hno _ (e1 ▸ hx2)), hg]; exact h.in1 _ x hx2
        · rw [updR_at, hg]
      · rw [updR_ne _ _ hg] at hx2
        rw [updR_ne _ _ (fun e1 => hno _ (e1 ▸ hx2))]; exact h.in1 g x hx2
    · have hx2 : updR A.pos e.rl e.fd x ≠ ByteArray.empty := hx
      show x ∈ updR A.row e.fd (A.row e.fd ++ [e.rl]) (updR A.pos e.rl e.fd x)
      by_cases hr : x = e.rl
      · rw [hr, updR_at, updR_at]; simp
      · rw [updR_ne _ _ hr] at hx2 ⊢
        have h1 := h.in2 x hx2
        by_cases hg : A.pos x = e.fd
        · rw [hg] at h1 ⊢; rw [updR_at]; exact List.mem_append_left _ h1
        · rw [updR_ne _ _ hg]; exact h1
    · show updR A.row e.fd _ ByteArray.empty = []
      rw [updR_ne _ _ (Ne.symm hf)]; exact h.nz
    · have hx2 : x ∈ updR A.row e.fd (A.row e.fd ++ [e.rl]) g := hx
      by_cases hg : g = e.fd
      · rw [hg, updR_at, List.mem_append, List.mem_singleton] at hx2
        rcases hx2 with hx2 | rfl
        · exact h.sz _ x hx2
        · exact he.rl
      · rw [updR_ne _ _ hg] at hx2; exact h.sz g x hx2
    · show (updR A.pos e.rl e.fd x).size ≤ 1000
      by_cases hr : x = e.rl
      · rw [hr, updR_at]; exact he.fd
      · rw [updR_ne _ _ hr]; exact h.fz x
    · show (updR A.row e.fd _ g).length ≤ n + 1
      by_cases hg : g = e.fd
      · rw [hg, updR_at, List.length_append]; have := h.ln e.fd; simp; omega
      · rw [updR_ne _ _ hg]; exact Nat.le_trans (h.ln g) (Nat.le_succ n)
  by_cases k1 : e.kd = 1
  · rw [if_pos (.inl k1)]
    rw [if_pos k1] at h0
    split at h0
    · rename_i hc; exact hput (by omega) hc.2
    · cases h0
  by_cases k2 : e.kd = 2
  · rw [if_pos (.inr k2)]
    rw [if_neg k1, if_pos k2] at h0
    split at h0
    · cases h0
    · split at h0
      · cases h0
      · rename_i hc; exact hput (by omega) (Classical.byContradiction hc)
  rw [if_neg (by omega)]
  rw [if_neg k1, if_neg k2] at h0
  by_cases k3 : e.kd = 3
  · rw [if_pos k3]
    exact h.cut (List.nil_suffix) h.lf (Nat.le_succ n) (Nat.le_trans h.ll hmm)
  rw [if_neg k3] at h0 ⊢
  by_cases k4 : e.kd = 4
  · rw [if_pos k4] at h0 ⊢
    split at h0
    · cases h0
    · split at h0
      · cases h0
      · rename_i hs
        obtain ⟨f1, f2, f3⟩ := useT_facts h (by omega : e.mn ≤ sumL A.left (A.row e.fd)) he.m0
        refine h.cut f2 (fun x => ⟨(f1 x).1, Int.le_trans (f1 x).2 (h.lf x).2⟩) (Nat.le_succ n) ?_
        have h1 := h.ln e.fd
        have h2 := h.ll
        unfold logU
        rw [List.length_append, List.length_map, List.length_reverse]
        omega
  rw [if_neg k4]
  refine ⟨fun x => ?_, h.nd, h.in1, h.in2, h.nz, h.sz, h.fz, fun g => Nat.le_trans (h.ln g) (Nat.le_succ n), Nat.le_trans h.ll hmm⟩
  show 0 ≤ updL A.left e.rl e.mn x ∧ updL A.left e.rl e.mn x ≤ 100000
  by_cases hx : x = e.rl
  · rw [hx, updL_at]; exact ⟨he.m0, he.m1⟩
  · rw [updL_ne _ _ hx]; exact h.lf x
/-- events in the log are those before. -/
def LogB (A : Mdl) (k : Nat) : Prop := ∀ t ∈ A.log, t.1 < (k : Int)
theorem LogB.mono {A : Mdl} {k m : Nat} (h : LogB A k) (hm : k ≤ m) : LogB A m := fun t ht => by have := h t ht; omega
theorem LogB.step {A : Mdl} {k : Nat} (h : LogB A k) (e : Fed) : LogB (stepM A k e) (k + 1) := by
  unfold stepM
  split
  · unfold doM
    split
    · exact h.mono (Nat.le_succ k)
    split
    · exact h.mono (Nat.le_succ k)
    split
    · intro t ht
      rcases List.mem_append.1 ht with ht | ht
      · have := h t ht; omega
      · unfold logU at ht
        obtain ⟨p, _, rfl⟩ := List.mem_map.1 ht
        show (k : Int) < ((k + 1 : Nat) : Int)
        omega
    · exact h.mono (Nat.le_succ k)
  · exact h.mono (Nat.le_succ k)
end Go.Proofs.YtihgnpobkpnipaaGreatDoor
