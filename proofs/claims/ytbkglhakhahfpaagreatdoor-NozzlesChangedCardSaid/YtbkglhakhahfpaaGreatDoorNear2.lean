/- The contracts of turned, shorter, ImprovedOf. Condition: coordinates within 2^41, at most 1000 points and places. · The contracts of Nearest and NearestOf. Condition: coordinates within 2^41, at most 1000 points. · The contract of NearestOf. Condition: coordinates within 2^41, at most 1000 points. -/
import Derived.Test.YtbkglhakhahfpaaGreatDoorImp
namespace Go.Proofs.YtbkglhakhahfpaaGreatDoor
open Go.RowKit Go.Sort

theorem rev_valid {P : List Pt} {o : List Nat} {i m : Nat} (h : ∀ k ∈ o, k < P.length) : ∀ k ∈ revSeg o i m, k < P.length := fun x hx => h x (revSeg_mem hx)

end Go.Proofs.YtbkglhakhahfpaaGreatDoor
namespace Go.Proofs.YtbkglhakhahfpaaGreatDoor
open Go.RowKit Go.Sort

/-- the nearest one of the first k points that are not in l; -1: there is none. -/
def bestTo (P : List Pt) (a : Pt) (l : List Nat) : Nat → Int
  | 0 => -1
  | k + 1 => if memB k (nats l) = false ∧ (bestTo P a l k < 0 ∨ dist a (pt P k) < dist a (pt P (bestTo P a l k).toNat)) then k else bestTo P a l k
theorem mem_nats {k : Nat} {l : List Nat} : (k : Int) ∈ nats l ↔ k ∈ l := by
  unfold nats
  constructor
  · intro h
    obtain ⟨j, hj, e⟩ := List.mem_map.1 h
    obtain rfl : j = k := by omega
    exact hj
  · intro h; exact List.mem_map.2 ⟨k, h, rfl⟩
theorem memB_nats {k : Nat} {l : List Nat} : memB k (nats l) = false ↔ k ∉ l := by
  unfold memB
  rw [decide_eq_false_iff_not, mem_nats]
theorem bestTo_ok (P : List Pt) (a : Pt) (l : List Nat) : ∀ k, -1 ≤ bestTo P a l k ∧ bestTo P a l k < k ∧ (0 ≤ bestTo P a l k → (bestTo P a l k).toNat ∉ l) ∧ (∀ j, j < k → j ∉ l → 0 ≤ bestTo P a l k)
  | 0 => ⟨Int.le_refl _, by simp [bestTo], by simp [bestTo], fun j h => by omega⟩
  | k + 1 => by
    obtain ⟨h1, h2, h3, h4⟩ := bestTo_ok P a l k
    simp only [bestTo]
    by_cases hc : memB k (nats l) = false ∧ (bestTo P a l k < 0 ∨ dist a (pt P k) < dist a (pt P (bestTo P a l k).toNat))
    · rw [if_pos hc]
      exact ⟨by omega, by omega, fun _ => by rw [Int.toNat_natCast]; exact memB_nats.1 hc.1, fun j _ _ => by omega⟩
    · rw [if_neg hc]
      refine ⟨h1, by omega, h3, fun j hj hjl => ?_⟩
      by_cases hjk : j < k
      · exact h4 j hjk hjl
      · obtain rfl : j = k := by omega
        by_cases hb : bestTo P a l j < 0
        · exact absurd ⟨memB_nats.2 hjl, .inl hb⟩ hc
        · omega
theorem pigeon : ∀ (n : Nat) (l : List Nat), (∀ k, k < n → k ∈ l) → n ≤ l.length
  | 0, _, _ => Nat.zero_le _
  | n + 1, l, h => by
    have hn := h n (by omega)
    have ih := pigeon n (l.erase n) (fun k hk => (List.mem_erase_of_ne (by omega)).2 (h k (by omega)))
    rw [List.length_erase_of_mem hn] at ih
    have := List.length_pos_of_mem hn
    omega

def nearTo (P : List Pt) (st : Pt) : Nat → List Nat × Pt
  | 0 => ([], st)
  | m + 1 => ((nearTo P st m).1 ++ [(bestTo P (nearTo P st m).2 (nearTo P st m).1 P.length).toNat], pt P (bestTo P (nearTo P st m).2 (nearTo P st m).1 P.length).toNat)
theorem nearTo_ok (P : List Pt) (st : Pt) : ∀ m, m ≤ P.length → (nearTo P st m).1.length = m ∧ (∀ k ∈ (nearTo P st m).1, k < P.length) ∧ (nearTo P st m).1.Nodup
  | 0, _ => ⟨rfl, by simp [nearTo], by simp [nearTo]⟩
  | m + 1, hm => by
    obtain ⟨h1, h2, h3⟩ := nearTo_ok P st m (by omega)
    obtain ⟨b1, b2, b3, b4⟩ := bestTo_ok P (nearTo P st m).2 (nearTo P st m).1 P.length
    have hex : ∃ j, j < P.length ∧ j ∉ (nearTo P st m).1 := by
      apply Classical.byContradiction
      intro hne
      have := pigeon P.length (nearTo P st m).1 (fun k hk => Classical.byContradiction fun h => hne ⟨k, hk, h⟩)
      omega
    obtain ⟨j, hj, hjl⟩ := hex
    have b5 := b4 j hj hjl
    simp only [nearTo]
    refine ⟨by simp [h1], ?_, ?_⟩
    · intro k hk
      rcases List.mem_append.1 hk with h | h
      · exact h2 k h
      · rw [List.mem_singleton.1 h]; omega
    · rw [List.nodup_append]
      exact ⟨h3, by simp, fun x hx y hy => by rw [List.mem_singleton.1 hy]; rintro rfl; exact b3 b5 hx⟩
theorem nearTo_best (P : List Pt) (st : Pt) (m : Nat) (hm : m < P.length) : ∃ b : Nat, bestTo P (nearTo P st m).2 (nearTo P st m).1 P.length = b ∧ b < P.length := by
  obtain ⟨h1, h2, h3⟩ := nearTo_ok P st m (by omega)
  obtain ⟨b1, b2, b3, b4⟩ := bestTo_ok P (nearTo P st m).2 (nearTo P st m).1 P.length
  have hex : ∃ j, j < P.length ∧ j ∉ (nearTo P st m).1 := by
    apply Classical.byContradiction
    intro hne
    have := pigeon P.length (nearTo P st m).1 (fun k hk => Classical.byContradiction fun h => hne ⟨k, hk, h⟩)
    omega
  obtain ⟨j, hj, hjl⟩ := hex
  have b5 := b4 j hj hjl
  exact ⟨_, (Int.toNat_of_nonneg b5).symm, by omega⟩
theorem nearTo_at_bd {P : List Pt} {st : Pt} (hst : Bd st) (hP : ∀ p ∈ P, Bd p) : ∀ m, m ≤ P.length → Bd (nearTo P st m).2
  | 0, _ => hst
  | m + 1, hm => by
    obtain ⟨b, hb1, hb2⟩ := nearTo_best P st m (by omega)
    simp only [nearTo]
    rw [hb1, Int.toNat_natCast]
    exact hP _ (getD_mem hb2)
theorem Marks.belowB {w w' : World} {g n B : Nat} {l : List Int} (h : Marks w g n l) (hb : Below B w w') (hg : g < B) : Marks w' g n l := by
  obtain ⟨cs, h1, h2, h3⟩ := h
  exact ⟨cs, (hb.block g hg).trans h1, h2, h3⟩
theorem nats_snoc (l : List Nat) (b : Nat) : nats (l ++ [b]) = nats l ++ [(b : Int)] := by simp [nats]

end Go.Proofs.YtbkglhakhahfpaaGreatDoor
namespace Go.Proofs.YtbkglhakhahfpaaGreatDoor
open Go.RowKit Go.Sort

theorem Contains_quiet {l : List Int} {y : Int} {v : Value} {w : World} {b : Bool} (hlen : l.length ≤ 100000) (rl : Ints w 0 v l) (hb : memB y l = b) (d : Nat) (os : Array Obj) :
    Calls Tryz.prog 138 #[v, .int .i64 y] (grow (redrawn w d) os) fun e w' => e = .returned (.bool b) ∧ ∃ p : Regrown, w' = grow (redrawn w p.d) p.os :=
  Calls.regrown_of ((Contains_any l y v _ hlen (rl.below (below_regrown w d os))).mono fun _ _ ⟨he, hw⟩ => ⟨by rw [he, hb], by rw [hw]; exact Below.refl _ _⟩)

end Go.Proofs.YtbkglhakhahfpaaGreatDoor
