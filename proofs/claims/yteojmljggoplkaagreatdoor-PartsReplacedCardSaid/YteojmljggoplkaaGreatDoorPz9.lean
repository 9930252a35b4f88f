/- Texts of the proof of a law, put together, part 9 of 46. Conditions: none beyond those that each theorem names. -/
import Derived.Test.YteojmljggoplkaaGreatDoorPz5
namespace Go.Proofs.YteojmljggoplkaaGreatDoor
open Go.RowKit Go.Sort Go.Maps
/-! the steps are the fewest -/
/-- in order of their steps; none has more than one step more than u. -/
structure BfQ (x : Bfs) (u : Int) : Prop where
  mono : ∀ (k m : Nat) (p q : Bs), k ≤ m → x.ln[k]? = some p → x.ln[m]? = some q → valB x p ≤ valB x q
  top : ∀ q ∈ x.ln, valB x q ≤ u + 1
theorem val_of {x : Bfs} {s : Bs} {v : Int} (h : x.st.get s = some v) : valB x s = v := by unfold valB; rw [h]; rfl
theorem Grw.val {x y : Bfs} (h : Grw x y) {s : Bs} (hs : x.st.has s = true) : valB y s = valB x s := by
  obtain ⟨v, hv⟩ := has_get.1 hs
  rw [val_of hv, val_of (h.gt s v hv)]
theorem visit1_q {g : Bs → List Bs} {a : Bs} {x : Bfs} {i : Nat} (h : BfI g a x i) {u : Int} (s : Bs) (hq : BfQ x u) : BfQ (visit1 (u + 1) x s) u := by
  unfold visit1
  by_cases e : x.st.has s = true
  · rw [if_pos e]; exact hq
  rw [if_neg e]
  have hsl : s ∉ x.ln := fun hm => e ((h.mem s).2 hm)
  have hs : valB ⟨x.st.put s (u + 1), x.ln ++ [s]⟩ s = u + 1 := val_of (Sm.get_put_same _ _ _)
  have ho : ∀ t ∈ x.ln, valB ⟨x.st.put s (u + 1), x.ln ++ [s]⟩ t = valB x t := fun t ht => by
    have hne : t ≠ s := fun q => hsl (q ▸ ht)
    show ((x.st.put s (u + 1)).get t).getD 0 = (x.st.get t).getD 0
    rw [Sm.get_put_other (Ne.symm hne)]
  have hm : ∀ t ∈ x.ln ++ [s], valB ⟨x.st.put s (u + 1), x.ln ++ [s]⟩ t ≤ u + 1 := fun t ht => by
    rcases List.mem_append.1 ht with ht | ht
    · rw [ho t ht]; exact hq.top t ht
    · rw [List.mem_singleton.1 ht, hs]; exact Int.le_refl _
  refine ⟨fun k m p q hkm hp hq' => ?_, hm⟩
  have hp' : (x.ln ++ [s])[k]? = some p := hp
  have hq'' : (x.ln ++ [s])[m]? = some q := hq'
  by_cases hml : m < x.ln.length
  · rw [List.getElem?_append_left (by omega)] at hp' hq''
    rw [ho p (List.mem_of_getElem? hp'), ho q (List.mem_of_getElem? hq'')]
    exact hq.mono k m p q hkm hp' hq''
  · have hqs : q = s := by
      rw [List.getElem?_append_right (by omega)] at hq''
      have := List.mem_of_getElem? hq''
      exact List.mem_singleton.1 this
    rw [hqs, hs]
    exact hm p (List.mem_of_getElem? hp')
theorem visitL_q {g : Bs → List Bs} {a : Bs} {p : Bs} {u : Int} : ∀ (l : List Bs) {x : Bfs} {i : Nat}, BfI g a x i → i ≤ x.ln.length → x.st.get p = some u → (∀ s ∈ l, s ∈ g p) → BfQ x u → BfQ (visitL (u + 1) x l) u
  | [], _, _, _, _, _, _, hq => hq
  | s :: r, x, i, h, hi, hp, hl, hq => by
    obtain ⟨h1, _, h3⟩ := visit1_ok h hi hp (hl s (List.mem_cons_self ..))
    obtain ⟨q, e⟩ := h3.ln
    exact visitL_q r h1 (by rw [e, List.length_append]; omega) (h3.gt _ _ hp) (fun t ht => hl t (List.mem_cons_of_mem _ ht)) (visit1_q h s hq)
structure BfM (g : Bs → List Bs) (x : Bfs) (i : Nat) : Prop where
  mono : ∀ (k m : Nat) (p q : Bs), k ≤ m → x.ln[k]? = some p → x.ln[m]? = some q → valB x p ≤ valB x q
  top : ∀ p, x.ln[i]? = some p → ∀ q ∈ x.ln, valB x q ≤ valB x p + 1
  edge : ∀ (k : Nat) (p : Bs), k < i → x.ln[k]? = some p → ∀ s ∈ g p, valB x s ≤ valB x p + 1
theorem bfs_step_m {g : Bs → List Bs} {a : Bs} {x : Bfs} {i : Nat} {p : Bs} (h : BfI g a x i) (m : BfM g x i) (hp : x.ln[i]? = some p) : BfM g (visitL (valB x p + 1) x (g p)) (i + 1) := by
  obtain ⟨hil, _⟩ := List.getElem?_eq_some_iff.1 hp
  have hpm := (h.mem p).2 (List.mem_of_getElem? hp)
  obtain ⟨u, hu⟩ := has_get.1 hpm
  have hv := val_of hu
  have hq : BfQ x u := ⟨m.mono, fun q hq => by rw [← hv]; exact m.top p hp q hq⟩
  rw [hv]
  have hQ := visitL_q (g p) h (Nat.le_of_lt hil) hu (fun _ q => q) hq
  obtain ⟨k1, k2, k3⟩ := visitL_ok (g p) h (Nat.le_of_lt hil) hu fun _ q => q
  generalize visitL (u + 1) x (g p) = y at hQ k1 k2 k3 ⊢
  obtain ⟨r, hr⟩ := k3.ln
  have old : ∀ k q, k < x.ln.length → y.ln[k]? = some q → x.ln[k]? = some q := fun k q hk e => by
    rw [hr, List.getElem?_append_left hk] at e; exact e
  have hpy : valB y p = u := by rw [k3.val hpm, hv]
  refine ⟨hQ.mono, fun q hq1 s hs => ?_, fun k q hk hq1 s hs => ?_⟩
  · have h1 := hQ.top s hs
    have hpi : y.ln[i]? = some p := by rw [hr, List.getElem?_append_left hil]; exact hp
    have h2 := hQ.mono i (i + 1) p q (by omega) hpi hq1
    omega
  · have hqx := old k q (by omega) hq1
    by_cases hki : k = i
    · subst hki
      rw [hp] at hqx
      injection hqx with hqx
      subst hqx
      rw [hpy]
      exact hQ.top s ((k1.mem s).1 (k2 s hs))
    · have h1 := h.cl k q (by omega) hqx s hs
      rw [k3.val h1, k3.val ((h.mem q).2 (List.mem_of_getElem? hqx))]
      exact m.edge k q (by omega) hqx s hs
theorem bfs0_m (g : Bs → List Bs) (a : Bs) : BfM g (bfs0 a) 0 := by
  have hv : valB (bfs0 a) a = 0 := val_of (Sm.get_put_same _ _ _)
  have hall : ∀ q ∈ (bfs0 a).ln, valB (bfs0 a) q = 0 := fun q hq => by rw [List.mem_singleton.1 (show q ∈ [a] from hq)]; exact hv
  exact ⟨fun k m p q _ hp hq => by rw [hall p (List.mem_of_getElem? hp), hall q (List.mem_of_getElem? hq)]; exact Int.le_refl _,
    fun p hp q hq => by rw [hall p (List.mem_of_getElem? hp), hall q hq]; omega, fun k p hk => absurd hk (by omega)⟩
theorem bfs_end_m {g : Bs → List Bs} {a : Bs} {U : List Bs} (hU : ∀ p s, s ∈ g p → s ∈ U) : ∀ (f : Nat) (i : Nat) (x : Bfs), BfI g a x i → BfM g x i → (∀ s ∈ x.ln, s ∈ U) → U.length + 1 ≤ i + f → ∃ j, BfI g a (bfsF g f i x) j ∧ BfM g (bfsF g f i x) j ∧ (bfsF g f i x).ln.length ≤ j
  | 0, i, x, h, m, hx, hf => ⟨i, h, m, by
      have := List.Nodup.length_le_of_subset h.nd hx
      show x.ln.length ≤ i
      omega⟩
  | f + 1, i, x, h, m, hx, hf => by
    rw [bfsF]
    cases hp : x.ln[i]? with
    | none => exact ⟨i, h, m, List.getElem?_eq_none_iff.1 hp⟩
    | some p =>
      obtain ⟨h1, h2⟩ := bfs_step h hp
      refine bfs_end_m hU f (i + 1) _ h1 (bfs_step_m h m hp) (fun s hs => ?_) (by omega)
      obtain ⟨v, hv⟩ := has_get.1 ((h1.mem s).2 hs)
      rcases h1.bk s v hv with ⟨rfl, _⟩ | ⟨q, _, _, e2, _⟩
      · exact hx _ ((h.mem _).1 (has_get.2 ⟨0, h.st⟩))
      · exact hU q s e2
/-- no way is shorter than what is told. -/
theorem bfsR_min (g : Bs → List Bs) (a : Bs) (U : List Bs) (ha : a ∈ U) (hU : ∀ p s, s ∈ g p → s ∈ U) : ∀ p, (bfsR g a U).st.has p = true → ∀ s ∈ g p, (bfsR g a U).st.has s = true ∧ valB (bfsR g a U) s ≤ valB (bfsR g a U) p + 1 := by
  obtain ⟨j, h1, h2, h3⟩ := bfs_end_m hU (U.length + 1) 0 (bfs0 a) (bfs0_ok g a) (bfs0_m g a) (fun s hs => by rw [List.mem_singleton.1 (show s ∈ [a] from hs)]; exact ha) (by omega)
  intro p hp s hs
  obtain ⟨k, hk⟩ := List.getElem?_of_mem ((h1.mem p).1 hp)
  obtain ⟨hkl, _⟩ := List.getElem?_eq_some_iff.1 hk
  exact ⟨h1.cl k p (by omega) hk s hs, h2.edge k p (by omega) hk s hs⟩
/-! all chains of one length, then of the next one: the first that ends well -/
def lastB (l : List Bs) : Bs := l.getLast?.getD []
def stepC (nx : Bs → List Bs) (l : List Bs) : List (List Bs) := ((nx (lastB l)).filter fun s => decide (s ∉ l)).map fun s => l ++ [s]
def levsC (nx : Bs → List Bs) : Nat → List (List Bs) → List (List Bs)
  | 0, L => L
  | n + 1, L => levsC nx n (L.flatMap (stepC nx))
def extC (nx : Bs → List Bs) : Nat → List Bs → Bs → List (List Bs)
  | 0, pre, x => [pre ++ [x]]
  | n + 1, pre, x => ((nx x).filter fun s => decide (s ∉ pre ++ [x])).flatMap fun s => extC nx n (pre ++ [x]) s
def chainR (nx : Bs → List Bs) (b : Bs) : Nat → List (List Bs) → Option (List Bs)
  | 0, _ => none
  | f + 1, L => match L.find? fun l => decide (lastB l = b) with
    | some l => some l
    | none => chainR nx b f (L.flatMap (stepC nx))
theorem lastB_app (l : List Bs) (s : Bs) : lastB (l ++ [s]) = s := by unfold lastB; rw [List.getLast?_concat]; rfl
theorem levsC_succ (nx : Bs → List Bs) : ∀ (n : Nat) (L : List (List Bs)), levsC nx (n + 1) L = (levsC nx n L).flatMap (stepC nx)
  | 0, _ => rfl
  | n + 1, L => by
    rw [levsC, levsC_succ nx n]
    rfl
theorem levsC_flat (nx : Bs → List Bs) : ∀ (n : Nat) (L : List (List Bs)), levsC nx n L = L.flatMap fun l => levsC nx n [l]
  | 0, L => by simp [levsC]
  | n + 1, L => by
    rw [levsC, levsC_flat nx n (L.flatMap _), List.flatMap_assoc]
    congr 1
    funext l
    rw [levsC, levsC_flat nx n ([l].flatMap _)]
    simp
theorem levsC_ext (nx : Bs → List Bs) : ∀ (n : Nat) (pre : List Bs) (x : Bs), levsC nx n [pre ++ [x]] = extC nx n pre x
  | 0, _, _ => rfl
  | n + 1, pre, x => by
    rw [levsC, extC, levsC_flat]
    simp only [List.flatMap_cons, List.flatMap_nil, List.append_nil]
    unfold stepC
    rw [lastB_app, List.flatMap_map]
    congr 1
    funext s
    exact levsC_ext nx n (pre ++ [x]) s
section
variable {g nx : Bs → List Bs} {b : Bs} {y : Bfs} {j : Nat}
theorem ext_far (hm : ∀ p, y.st.has p = true → ∀ s, p ∈ nx s → y.st.has s = true ∧ valB y s ≤ valB y p + 1) : ∀ (n : Nat) (pre : List Bs) (x : Bs) (l : List Bs), l ∈ extC nx n pre x → y.st.has (lastB l) = true → y.st.has x = true ∧ valB y x ≤ valB y (lastB l) + n
  | 0, pre, x, l, hl, h => by
    rw [List.mem_singleton.1 (show l ∈ [pre ++ [x]] from hl), lastB_app] at h ⊢
    exact ⟨h, by omega⟩
  | n + 1, pre, x, l, hl, h => by
    rw [extC, List.mem_flatMap] at hl
    obtain ⟨s, hs, hl⟩ := hl
    obtain ⟨h1, h2⟩ := ext_far hm n _ s l hl h
    obtain ⟨h3, h4⟩ := hm s h1 x (List.mem_filter.1 hs).1
    exact ⟨h3, by omega⟩
theorem find_flat {α β : Type} {T P : α → Bool} {Q : β → Bool} {F : α → List β} {s0 : α} {r : β} (hP : P s0 = true) (hr : (F s0).find? Q = some r) : ∀ l : List α, l.find? T = some s0 → (∀ s ∈ l, T s = false → (F s).find? Q = none) → ((l.filter P).flatMap F).find? Q = some r
  | [], h, _ => by cases h
  | s :: l, h, hn => by
    rw [List.find?_cons] at h
    cases ht : T s with
    | true =>
      rw [ht] at h
      injection h with h
      subst h
      rw [List.filter_cons_of_pos hP, List.flatMap_cons, List.find?_append, hr]
      rfl
    | false =>
      rw [ht] at h
      have ih := find_flat hP hr l h fun t h1 => hn t (List.mem_cons_of_mem _ h1)
      cases hp : P s with
      | false => rw [List.filter_cons_of_neg (by rw [hp]; decide)]; exact ih
      | true =>
        rw [List.filter_cons_of_pos hp, List.flatMap_cons, List.find?_append, hn s (List.mem_cons_self ..) ht]
        exact ih
theorem ext_find (h : BfI g b y j) (hg : ∀ p s, s ∈ g p → p ∈ nx s) (hm : ∀ p, y.st.has p = true → ∀ s, p ∈ nx s → y.st.has s = true ∧ valB y s ≤ valB y p + 1) : ∀ (n : Nat) (pre : List Bs) (x : Bs), y.st.get x = some (n : Int) → (∀ q ∈ pre, y.st.has q = true → (n : Int) < valB y q) → (extC nx n pre x).find? (fun l => decide (lastB l = b)) = some (pre ++ chainB nx y b n x)
  | 0, pre, x, hx, _ => by
    have e := val_zero h hx
    subst e
    rw [extC, List.find?_cons, lastB_app, chainB]
    simp
  | n + 1, pre, x, hx, hp => by
    have hbz : y.st.get b = some 0 := h.st
    have hb : x ≠ b := fun e => by rw [e, hbz] at hx; injection hx with hx; omega
    obtain ⟨h1, h2⟩ := pick_ok h hg hx hb
    have hvx := val_of hx
    have h2' : y.st.get (pickB nx y x) = some (n : Int) := by rw [h2]; congr 1; omega
    have hvp := val_of h2'
    rw [chainB, if_neg hb, extC]
    have hmem : pickB nx y x ∉ pre ++ [x] := fun hc => by
      rcases List.mem_append.1 hc with hc | hc
      · have := hp _ hc (has_get.2 ⟨_, h2'⟩); omega
      · rw [List.mem_singleton.1 hc] at hvp; omega
    have ih := ext_find h hg hm n (pre ++ [x]) (pickB nx y x) h2' fun q hq hh => by
      rcases List.mem_append.1 hq with hq | hq
      · have := hp q hq hh; omega
      · rw [List.mem_singleton.1 hq]; omega
    rw [List.append_assoc] at ih
    refine find_flat (T := fun s => decide (y.st.get s = some (valB y x - 1))) (decide_eq_true hmem) ih (nx x) ?_ fun s hs ht => ?_
    · unfold pickB at h1 h2 ⊢
      cases hf : (nx x).find? fun s => decide (y.st.get s = some (valB y x - 1)) with
      | some s => rfl
      | none =>
        exfalso
        have h3 := List.find?_eq_none.1 hf _ h1
        rw [h2, hvx] at h3
        exact h3 (by simp)
    · rw [List.find?_eq_none]
      intro l hl hlb
      have hlb' : lastB l = b := of_decide_eq_true hlb
      obtain ⟨e1, e2⟩ := ext_far hm n _ s l hl (by rw [hlb']; exact has_get.2 ⟨0, hbz⟩)
      rw [hlb', val_of hbz] at e2
      obtain ⟨_, e3⟩ := hm s e1 x hs
      obtain ⟨v, hv⟩ := has_get.1 e1
      have hvs := val_of hv
      refine absurd ?_ (of_decide_eq_false ht)
      rw [hv]
      congr 1
      omega
/-- the first chain that ends well, of all of one length, then of the next one, is the one that goes nearer with each step. -/
theorem chainR_law (h : BfI g b y j) (hg : ∀ p s, s ∈ g p → p ∈ nx s) (hm : ∀ p, y.st.has p = true → ∀ s, p ∈ nx s → y.st.has s = true ∧ valB y s ≤ valB y p + 1) {a : Bs} {d : Nat} (ha : y.st.get a = some (d : Int)) : ∀ (f m : Nat), m ≤ d → d < m + f → chainR nx b f (levsC nx m [[a]]) = some (chainB nx y b d a)
  | 0, m, h1, h2 => by omega
  | f + 1, m, h1, h2 => by
    have hE : levsC nx m [[a]] = extC nx m [] a := levsC_ext nx m [] a
    rw [chainR]
    by_cases hmd : m = d
    · subst hmd
      have := ext_find h hg hm m [] a ha (fun q hq => by cases hq)
      rw [hE, this]
      rfl
    · have hn : (levsC nx m [[a]]).find? (fun l => decide (lastB l = b)) = none := by
        rw [hE, List.find?_eq_none]
        intro l hl hlb
        have hlb' : lastB l = b := of_decide_eq_true hlb
        obtain ⟨_, e2⟩ := ext_far hm m [] a l hl (by rw [hlb']; exact has_get.2 ⟨0, h.st⟩)
        rw [hlb', val_of h.st, val_of ha] at e2
        omega
      rw [hn]
      show chainR nx b f ((levsC nx m [[a]]).flatMap (stepC nx)) = _
      rw [← levsC_succ]
      exact chainR_law h hg hm ha f (m + 1) (by omega) (by omega)
end
end Go.Proofs.YteojmljggoplkaaGreatDoor
namespace Go.Proofs.YteojmljggoplkaaGreatDoor
open Go.RowKit Go.Sort Go.Maps
/-- sorted, each once. -/
def Srt (l : List Bs) : Prop := l.Pairwise fun a b => a ≤ b ∧ a ≠ b
theorem Srt.nodup {l : List Bs} (h : Srt l) : l.Nodup := h.imp fun q => q.2
theorem Srt.of_sort {l : List Bs} (h : l.Pairwise fun a b => leB a b = true) (n : l.Nodup) : Srt l := (h.and n).imp fun q => ⟨of_decide_eq_true q.1, q.2⟩
theorem srt_eq {a b : List Bs} (ha : Srt a) (hb : Srt b) (h : ∀ s, s ∈ a ↔ s ∈ b) : a = b := by
  have hp : a.Perm b := (List.perm_ext_iff_of_nodup ha.nodup hb.nodup).2 h
  exact List.Perm.eq_of_pairwise (le := fun x y : Bs => x ≤ y) (fun x y _ _ h1 h2 => List.le_antisymm h1 h2) (ha.imp fun q => q.1) (hb.imp fun q => q.1) hp
theorem Srt.sort {l m : List Bs} (h : Srt l) (hp : m.Perm l) : m.mergeSort leB = l := by
  rw [mergeSort_of_perm hp]
  exact List.mergeSort_of_pairwise (h.imp fun q => decide_eq_true q.1)
theorem Srt.filter {l : List Bs} (h : Srt l) (f : Bs → Bool) : Srt (l.filter f) := List.Pairwise.filter f h
theorem Srt.other {l : List Bs} (h : Srt l) (hl : 1 < l.length) (p : Bs) : ∃ q ∈ l, q ≠ p := by
  match l, h, hl with
  | a :: b :: r, h, _ =>
    have hab := (List.rel_of_pairwise_cons h (List.mem_cons_self ..)).2
    by_cases e : a = p
    · exact ⟨b, by simp, fun q => hab (e.trans q.symm)⟩
    · exact ⟨a, by simp, e⟩
theorem Srt.head_le {l : List Bs} {x : Bs} (h : Srt l) (hx : l.head? = some x) : ∀ s ∈ l, x ≤ s := by
  intro s hs
  cases l with
  | nil => cases hx
  | cons a r =>
    injection hx with hx
    subst hx
    rcases List.mem_cons.1 hs with rfl | hs
    · exact List.le_refl _
    · exact (List.rel_of_pairwise_cons h hs).1
section
variable {M : Bs → Bs → Prop} {mem : Bs → List Bs}
def firstB (mem : Bs → List Bs) (k : Bs) : Bool := decide (1 < (mem k).length) && decide ((mem k).head? = some k)
theorem grpL_eq (hr : ∀ a, M a a) (hs : ∀ a b, M a b → M b a) (ht : ∀ a b c, M a b → M b c → M a c) : ∀ (r done : List Bs) (x : Gps), (∀ s, s ∈ x.seen ↔ ∃ k ∈ done, M k s) → Srt (done ++ r) → (∀ k ∈ r, (∀ s, s ∈ mem k ↔ M k s) ∧ Srt (mem k)) → (∀ p q, M p q → p ≠ q → p ∈ done ++ r) → (grpL mem x r).out = x.out ++ (r.filter (firstB mem)).map mem
  | [], done, x, _, _, _, _ => by simp [grpL]
  | k :: r, done, x, hx, hsr, hm, ha => by
    obtain ⟨hmk, hsk⟩ := hm k (List.mem_cons_self ..)
    have hkm : k ∈ mem k := (hmk k).2 (hr k)
    have hlt : ∀ q ∈ done, q ≤ k ∧ q ≠ k := fun q hq => (List.pairwise_append.1 hsr).2.2 q hq k (List.mem_cons_self ..)
    have hgt : ∀ q ∈ r, k ≤ q ∧ k ≠ q := fun q hq => List.rel_of_pairwise_cons (List.pairwise_append.1 hsr).2.1 hq
    have happ : done ++ k :: r = (done ++ [k]) ++ r := by simp
    have rest : ∀ y : Gps, (∀ s, s ∈ y.seen ↔ ∃ q ∈ done ++ [k], M q s) → (grpL mem y r).out = y.out ++ (r.filter (firstB mem)).map mem := fun y hy =>
      grpL_eq hr hs ht r (done ++ [k]) y hy (happ ▸ hsr) (fun q hq => hm q (List.mem_cons_of_mem _ hq)) (happ ▸ ha)
    obtain ⟨h0, hh⟩ : ∃ h0, (mem k).head? = some h0 := by
      cases hmk' : mem k with
      | nil => rw [hmk'] at hkm; cases hkm
      | cons a l => exact ⟨a, rfl⟩
    have hle := hsk.head_le hh
    have hM0 : M k h0 := (hmk h0).1 (List.mem_of_head? hh)
    rw [grpL]
    unfold grp1
    by_cases hk : k ∈ x.seen
    · rw [if_pos hk]
      obtain ⟨q, hq, hqk⟩ := (hx k).1 hk
      have hf : firstB mem k = false := by
        unfold firstB
        have h1 := hle q ((hmk q).2 (hs _ _ hqk))
        have h2 := hlt q hq
        have : ¬ (mem k).head? = some k := fun e => by
          rw [hh] at e
          injection e with e
          subst e
          exact h2.2 (List.le_antisymm h2.1 h1)
        simp [this]
      rw [List.filter_cons_of_neg (by rw [hf]; decide)]
      refine rest x fun s => ⟨fun h => ?_, fun h => ?_⟩
      · obtain ⟨c, hc, e⟩ := (hx s).1 h
        exact ⟨c, List.mem_append_left _ hc, e⟩
      · obtain ⟨c, hc, e⟩ := h
        rcases List.mem_append.1 hc with hc | hc
        · exact (hx s).2 ⟨c, hc, e⟩
        · rw [List.mem_singleton.1 hc] at e
          exact (hx s).2 ⟨q, hq, ht _ _ _ hqk e⟩
    · rw [if_neg hk]
      have hy : ∀ (o : List (List Bs)) s, s ∈ (Gps.mk (x.seen ++ mem k) o).seen ↔ ∃ q ∈ done ++ [k], M q s := fun o s => by
        show s ∈ x.seen ++ mem k ↔ _
        rw [List.mem_append, hx, hmk]
        constructor
        · rintro (⟨c, hc, e⟩ | e)
          · exact ⟨c, List.mem_append_left _ hc, e⟩
          · exact ⟨k, by simp, e⟩
        · rintro ⟨c, hc, e⟩
          rcases List.mem_append.1 hc with hc | hc
          · exact .inl ⟨c, hc, e⟩
          · rw [List.mem_singleton.1 hc] at e
            exact .inr e
      rw [rest _ (hy _)]
      by_cases hl : 1 < (mem k).length
      · have hf : firstB mem k = true := by
          unfold firstB
          rw [hh]
          have : h0 = k := by
            by_cases e : h0 = k
            · exact e
            exfalso
            have h1 := hle k hkm
            have h2 := ha h0 k (hs _ _ hM0) e
            rcases List.mem_append.1 h2 with h2 | h2
            · exact hk ((hx k).2 ⟨h0, h2, hs _ _ hM0⟩)
            · rcases List.mem_cons.1 h2 with h2 | h2
              · exact e h2
              · exact e (List.le_antisymm h1 (hgt h0 h2).1)
          simp [this, hl]
        rw [List.filter_cons_of_pos hf, if_pos hl]
        simp
      · have hf : firstB mem k = false := by unfold firstB; simp [hl]
        rw [List.filter_cons_of_neg (by rw [hf]; decide), if_neg hl]
/-- the reference: of each part the group that begins with it. -/
def groupsR (f : Bs → Bs → Bool) (ps : List Bs) : List (List Bs) := ps.flatMap fun p => if firstB (fun k => ps.filter (f k)) p = true then [ps.filter (f p)] else []
theorem flat_if {α β : Type} (F : α → Bool) (G : α → β) (l : List α) : (l.flatMap fun p => if F p = true then [G p] else []) = (l.filter F).map G := by
  induction l with
  | nil => rfl
  | cons a l ih =>
    rw [List.flatMap_cons, ih]
    cases h : F a with
    | true => rw [List.filter_cons_of_pos h]; rfl
    | false => rw [List.filter_cons_of_neg (by rw [h]; decide)]; rfl
theorem groupsR_eq (f : Bs → Bs → Bool) (ps : List Bs) : groupsR f ps = (ps.filter (firstB fun k => ps.filter (f k))).map fun k => ps.filter (f k) := flat_if _ _ _
theorem groups_same (hr : ∀ a, M a a) (hs : ∀ a b, M a b → M b a) (ht : ∀ a b c, M a b → M b c → M a c) {f : Bs → Bs → Bool} (hf : ∀ a b, f a b = true ↔ M a b) {ks ps : List Bs} (hks : Srt ks) (hps : Srt ps) (hsub : ∀ k ∈ ks, k ∈ ps) (hm : ∀ k ∈ ks, (∀ s, s ∈ mem k ↔ M k s) ∧ Srt (mem k)) (hin : ∀ p q, M p q → p ≠ q → p ∈ ks) : (grpL mem ⟨[], []⟩ ks).out = groupsR f ps := by
  have hmem : ∀ k ∈ ks, mem k = ps.filter (f k) := fun k hk => by
    refine srt_eq (hm k hk).2 (hps.filter _) fun s => ?_
    rw [(hm k hk).1, List.mem_filter, hf]
    exact ⟨fun h => ⟨by
      by_cases e : s = k
      · rw [e]; exact hsub k hk
      · exact hsub s (hin s k (hs _ _ h) e), h⟩, fun h => h.2⟩
  rw [grpL_eq hr hs ht ks [] ⟨[], []⟩ (fun s => by simp) hks hm hin, groupsR_eq]
  show [] ++ _ = _
  rw [List.nil_append]
  have hF : ks.filter (firstB mem) = ps.filter (firstB fun k => ps.filter (f k)) := by
    refine srt_eq (hks.filter _) (hps.filter _) fun s => ?_
    have hsame : s ∈ ks → firstB mem s = firstB (fun k => ps.filter (f k)) s := fun h => by
      unfold firstB
      rw [hmem s h]
    rw [List.mem_filter, List.mem_filter]
    constructor
    · rintro ⟨h1, h2⟩
      exact ⟨hsub s h1, hsame h1 ▸ h2⟩
    · rintro ⟨h1, h2⟩
      have h3 : 1 < (ps.filter (f s)).length := by
        unfold firstB at h2
        rw [Bool.and_eq_true] at h2
        exact of_decide_eq_true h2.1
      obtain ⟨q, hq, hne⟩ := (hps.filter (f s)).other h3 s
      have h4 := hin s q ((hf s q).1 (List.mem_filter.1 hq).2) (Ne.symm hne)
      exact ⟨h4, hsame h4 ▸ h2⟩
  rw [← hF]
  exact List.map_congr_left fun k hk => hmem k (List.mem_filter.1 hk).1
end
end Go.Proofs.YteojmljggoplkaaGreatDoor
