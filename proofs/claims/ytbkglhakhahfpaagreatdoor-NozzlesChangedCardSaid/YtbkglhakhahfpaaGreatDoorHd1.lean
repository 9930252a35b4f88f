/- Slices of names: Index, Contains. The errors of kinds of nozzles. Conditions: at most 100000 names of at most 1000 bytes. -/
import Derived.Test.YtbkglhakhahfpaaGreatDoorNms
import Derived.Test.YtbkglhakhahfpaaGreatDoorStrs
import Derived.Test.YtbkglhakhahfpaaGreatDoorKey
import Derived.Test.YtbkglhakhahfpaaGreatDoorSpan
import Derived.Test.YtbkglhakhahfpaaGreatDoorLen
namespace Go.Proofs.YtbkglhakhahfpaaGreatDoor
open Go.RowKit Go.Sort

abbrev Nm := ByteArray
theorem flat_str (l : List Nm) : l.flatMap TS.f = l.map Value.string := by
  induction l with
  | nil => rfl
  | cons a l ih => rw [List.flatMap_cons, ih]; rfl
theorem strs_at {w : World} {lo : Nat} {a : Option Addr} {n cap : Nat} {l : List Nm} (h : RecR TS w lo (.slice a n cap) l) {k : Nat} {x : Nm} (hk : l[k]? = some x) :
    ∃ b o, a = some ⟨b, o, none⟩ ∧ lo ≤ b ∧ b < w.heap.size ∧ w.cell? ⟨b, o + k, none⟩ = some (.string x) := by
  obtain ⟨b, o, rfl, h1, h2, h3⟩ := h.at TS.ok.len hk TS.ok.pos
  refine ⟨b, o, rfl, h1, h2, ?_⟩
  have := h3 0 _ rfl
  simpa [TS] using this
theorem strs_cells {w : World} {lo : Nat} {b o n cap : Nat} {l : List Nm} (h : RecR TS w lo (.slice (some ⟨b, o, none⟩) n cap) l) : ∀ j, j < l.length → w.cell? ⟨b, o + j, none⟩ = some (.string (l.getD j ByteArray.empty)) := by
  intro j hj
  obtain ⟨b', o', e, _, _, hc⟩ := strs_at h (k := j) (x := l.getD j ByteArray.empty) (by simp [List.getD_eq_getElem?_getD, hj])
  injection e with e; injection e with e1 e2 _; subst e1 e2
  exact hc
theorem strs_drop {w : World} {lo : Nat} {b o n cap : Nat} {l : List Nm} (h : RecR TS w lo (.slice (some ⟨b, o, none⟩) n cap) l) {k : Nat} (hk : k ≤ l.length) : RecR TS w lo (.slice (some ⟨b, o + k, none⟩) (l.length - k) (cap - k)) (l.drop k) := by
  obtain ⟨a', cap', hv, h1, h2, h3⟩ := h
  obtain ⟨rfl, rfl, rfl⟩ := Value.slice.inj hv
  refine ⟨_, _, by rw [List.length_drop], by rw [List.length_drop]; omega, by omega, fun j x hj => ?_⟩
  have hj' : (l.flatMap TS.f)[k + j]? = some x := by
    rw [flat_str] at hj ⊢
    rw [List.map_drop, List.getElem?_drop] at hj
    exact hj
  obtain ⟨b', o', e, h4, h5, h6⟩ := h3 _ _ hj'
  injection e with e; injection e with e1 e2 _; subst e1 e2
  exact ⟨_, _, rfl, h4, h5, by rw [Nat.add_assoc]; exact h6⟩
theorem IndexS_any (l : List Nm) (v : Value) (x : Nm) (w : World) (hlen : l.length ≤ 100000) (rl : RecR TS w 0 v l) :
    Calls Tryz.prog 206 #[v, .string x] w fun e w' => e = .returned (.int .i64 (Lib.idxOfS l x)) ∧ w = w' := by
  obtain ⟨a, cap, rfl, hc1, hc2⟩ := rl.form
  by_cases h0 : l = []
  · subst h0
    exact (Tryz.slices_Index_string_empty a cap x w).mono fun e w' ⟨h1, h2⟩ => ⟨h1, h2.symm⟩
  · obtain ⟨y, hy⟩ : ∃ y, l[0]? = some y := ⟨_, List.getElem?_eq_getElem (List.length_pos_iff.2 h0)⟩
    obtain ⟨b, o, rfl, _, _, _⟩ := strs_at rl hy
    have := Tryz.slices_Index_string b o l.length cap l x w (Nat.le_refl _) (by omega) (strs_cells rl)
    rw [List.take_length] at this
    exact this.mono fun e w' ⟨h1, h2⟩ => ⟨h1, h2.symm⟩
theorem ContainsS_any (l : List Nm) (v : Value) (x : Nm) (w : World) (hlen : l.length ≤ 100000) (rl : RecR TS w 0 v l) :
    Calls Tryz.prog 127 #[v, .string x] w fun e w' => e = .returned (.bool (Lib.containsS l x)) ∧ w = w' := by
  obtain ⟨a, cap, rfl, hc1, hc2⟩ := rl.form
  by_cases h0 : l = []
  · subst h0
    exact (Tryz.slices_Contains_string_empty a cap x w).mono fun e w' ⟨h1, h2⟩ => ⟨by rw [h1]; rfl, h2.symm⟩
  · obtain ⟨y, hy⟩ : ∃ y, l[0]? = some y := ⟨_, List.getElem?_eq_getElem (List.length_pos_iff.2 h0)⟩
    obtain ⟨b, o, rfl, _, _, _⟩ := strs_at rl hy
    have := Tryz.slices_Contains_string b o l.length cap l x w (Nat.le_refl _) (by omega) (strs_cells rl)
    rw [List.take_length] at this
    exact this.mono fun e w' ⟨h1, h2⟩ => ⟨h1, h2.symm⟩

theorem span_in (n lo hi : Int) : spanF n lo hi = if inB lo n hi = true then 0 else 1 := by
  unfold spanF inB
  by_cases h1 : lo ≤ n <;> by_cases h2 : n ≤ hi <;> simp [h1, h2]
/-- the error of kinds of nozzles. -/
def kindF (l : List Nm) (h : Int) : Int := if inB 1 h 8 = false then 1 else if 2000 < l.length then 2 else if l.any (fun s => !keyB s) = true then 5 else 0
theorem kindF_zero {l : List Nm} {h : Int} (e : kindF l h = 0) : (1 ≤ h ∧ h ≤ 8) ∧ l.length ≤ 2000 := by
  unfold kindF at e
  by_cases h1 : inB 1 h 8 = false
  · rw [if_pos h1] at e; omega
  · rw [if_neg h1] at e
    by_cases h2 : 2000 < l.length
    · rw [if_pos h2] at e; omega
    · refine ⟨?_, by omega⟩
      simp only [Bool.not_eq_false] at h1
      unfold inB at h1
      simpa using h1
theorem kindF_next {l : List Nm} {h : Int} (e : kindF l h = 0) (h7 : h ≤ 7) : kindF l (h + 1) = 0 := by
  obtain ⟨⟨a, b⟩, c⟩ := kindF_zero e
  unfold kindF at e ⊢
  have i1 : inB 1 h 8 = true := by unfold inB; simp; omega
  have i2 : inB 1 (h + 1) 8 = true := by unfold inB; simp; omega
  rw [i1] at e
  rw [i2]
  exact e
set_option maxHeartbeats 400000 in
theorem kf1_any (s : Nm) (w : World) (hs : s.size ≤ 1000) : Calls Tryz.prog 203 #[.string s] w fun e w' => e = .returned (.bool (!keyB s)) ∧ Below w.heap.size w w' := by
  go_enter Tryz.func203, Tryz.ntmps203
  go_wp2_with fail
  refine (IsKey_any s _ (by omega)).mono ?_
  rintro e w2 ⟨rfl, hb⟩
  go_wp2
  go_ret
  exact ⟨rfl, hb⟩
set_option maxHeartbeats 1000000 in
theorem IndexKf_any (l : List Nm) (v : Value) (w : World) (_ : l.length ≤ 100000) (hs : ∀ s ∈ l, s.size ≤ 1000) (rl : RecR TS w 0 v l) :
    Calls Tryz.prog 207 #[v, .func (.func 203) #[] #[]] w fun e w' => (∃ r : Int, e = .returned (.int .i64 r) ∧ decide (0 ≤ r) = l.any (fun s => !keyB s)) ∧ Below w.heap.size w w' := by
  obtain ⟨a, cap, rfl, hc1, hc2⟩ := rl.form
  have HS0 := Lib.hid hs
  clear hs
  go_enter Tryz.func207, Tryz.ntmps207
  go_wp2
  go_loopw [8] (fun i wr => ∃ k : Nat, k ≤ l.length ∧ i = .int .i64 k ∧ Hid ((l.take k).any (fun s => !keyB s) = false) ∧ Below w.heap.size w wr) (fun i _ => l.length - (intOf i).toNat)
  case atStart => exact ⟨0, Nat.zero_le _, rfl, Lib.hid rfl, Below.refl _ _⟩
  case round =>
    obtain ⟨k, hk, rfl, hf, hb⟩ := hrel
    by_cases hlt : k < l.length
    · obtain ⟨t, ht⟩ : ∃ t, l[k]? = some t := ⟨_, List.getElem?_eq_getElem hlt⟩
      have HS : Hid ((l.take (k + 1)).any (fun s => !keyB s) = ((l.take k).any (fun s => !keyB s) || !keyB t)) := Lib.hid (by rw [take_snoc ht]; simp)
      have HM := Lib.hid (List.mem_of_getElem? ht)
      have HC := Lib.hid fun W => kf1_any t W (HS0.out t HM.out)
      obtain ⟨b2', o2, rfl, _, hl2, hx2⟩ := strs_at rl ht
      have y2 := ((bcell hb).1 b2' (o2 + k) hl2).trans hx2
      clear ht hx2
      cases hp : keyB t
      all_goals
        have HP := Lib.hid hp
        rw [hp] at HC
        clear hp
        go_wp2_with (go_at_call 203; refine (HC.out _).mono ?_; rintro e w2 ⟨rfl, hb2⟩)
      · go_ret
        refine ⟨⟨_, rfl, ?_⟩, hb.trans (hb2.mono hb.size)⟩
        have : l.any (fun s => !keyB s) = true := List.any_eq_true.2 ⟨_, HM.out, by rw [HP.out]; rfl⟩
        rw [this]; simp
      · go_roundw
        case rel => exact ⟨k + 1, by omega, by go_num, Lib.hid (by rw [HS.out, hf.out, HP.out]; rfl), hb.trans (hb2.mono hb.size)⟩
        case measure => simp [intOf]; omega
    · have hk2 : k = l.length := by omega
      subst hk2
      rw [List.take_length] at hf
      go_wp2
      go_ret
      exact ⟨⟨_, rfl, by rw [hf.out]; rfl⟩, hb⟩
set_option maxHeartbeats 1000000 in
theorem ContainsKf_any (l : List Nm) (v : Value) (w : World) (hlen : l.length ≤ 100000) (hs : ∀ s ∈ l, s.size ≤ 1000) (rl : RecR TS w 0 v l) :
    Calls Tryz.prog 202 #[v, .func (.func 203) #[] #[]] w fun e w' => e = .returned (.bool (l.any (fun s => !keyB s))) ∧ Below w.heap.size w w' := by
  go_enter Tryz.func202, Tryz.ntmps202
  go_wp2_with fail
  refine (IndexKf_any l v _ hlen hs rl).mono ?_
  rintro e w2 ⟨⟨r, rfl, hr⟩, hb⟩
  have HR := Lib.hid hr
  clear hr
  go_wp2
  go_ret
  exact ⟨ret_bool HR.out, hb⟩
set_option maxHeartbeats 1000000 in
theorem kindsFault_any (l : List Nm) (h : Int) (v : Value) (w : World) (hlen : l.length ≤ 100000) (hs : ∀ s ∈ l, s.size ≤ 1000) (rl : RecR TS w 0 v l) :
    Calls Tryz.prog 121 #[v, .int .i64 h] w fun e w' => e = .returned (.int .i64 (kindF l h)) ∧ Below w.heap.size w w' := by
  obtain ⟨a, cap, rfl, hc1, hc2⟩ := rl.form
  have HC := Lib.hid (ContainsKf_any l _ w hlen hs rl)
  have HO := Lib.hid fun W => Outside_any h 1 8 W
  clear rl hs
  cases hi : inB 1 h 8
  · have HV : Hid (kindF l h = 1) := Lib.hid (by unfold kindF; rw [if_pos hi])
    rw [hi] at HO
    clear hi
    go_enter Tryz.func121, Tryz.ntmps121
    go_wp2_with fail
    refine (HO.out _).mono ?_
    rintro e w' ⟨rfl, rfl⟩
    go_wp2
    go_ret
    exact ⟨ret_int HV.out.symm, Below.refl _ _⟩
  · rw [hi] at HO
    by_cases h1 : 2000 < l.length
    · have HV : Hid (kindF l h = 2) := Lib.hid (by unfold kindF; rw [if_neg (by rw [hi]; simp), if_pos h1])
      have e1 : (2000 : Int) < l.length := by omega
      clear hi
      go_enter Tryz.func121, Tryz.ntmps121
      go_wp2_with fail
      refine (HO.out _).mono ?_
      rintro e w' ⟨rfl, rfl⟩
      go_wp2
      go_ret
      exact ⟨ret_int HV.out.symm, Below.refl _ _⟩
    · have e1 : ¬ (2000 : Int) < l.length := by omega
      have HV : Hid (kindF l h = if l.any (fun s => !keyB s) = true then 5 else 0) := Lib.hid (by unfold kindF; rw [if_neg (by rw [hi]; simp), if_neg h1])
      clear hi
      cases hp : l.any (fun s => !keyB s)
      all_goals
        rw [hp] at HV HC
        clear hp
        go_enter Tryz.func121, Tryz.ntmps121
        go_wp2_with fail
        refine (HO.out _).mono ?_
        rintro e w' ⟨rfl, rfl⟩
        go_wp2_with fail
        refine HC.out.mono ?_
        rintro e w2 ⟨rfl, hb⟩
        go_wp2
        go_ret
        exact ⟨ret_int HV.out.symm, hb⟩
set_option maxHeartbeats 1000000 in
theorem NozzlesFault_any (l : List Nm) (h : Int) (v : Value) (w : World) (hlen : l.length ≤ 100000) (hs : ∀ s ∈ l, s.size ≤ 1000) (rl : RecR TS w 0 v l) :
    Calls Tryz.prog 30 #[v, .int .i64 h] w fun e w' => e = .returned (.int .i64 (kindF l h)) ∧ Below w.heap.size w w' := by
  obtain ⟨a, cap, rfl, hc1, hc2⟩ := rl.form
  have HS0 := Lib.hid hs
  have hO := fun W => SpanFault_any h 1 8 W
  rw [span_in] at hO
  have HO := Lib.hid hO
  clear hs hO
  cases hi : inB 1 h 8
  · have HV : Hid (kindF l h = 1) := Lib.hid (by unfold kindF; rw [if_pos hi])
    rw [hi] at HO
    clear hi rl
    go_enter Tryz.func30, Tryz.ntmps30
    go_wp2_with fail
    refine (HO.out _).mono ?_
    rintro e w' ⟨rfl, rfl⟩
    go_wp2
    go_ret
    exact ⟨ret_int HV.out.symm, Below.refl _ _⟩
  · rw [hi] at HO
    by_cases h1 : 2000 < l.length
    · have HV : Hid (kindF l h = 2) := Lib.hid (by unfold kindF; rw [if_neg (by rw [hi]; simp), if_pos h1])
      have e1 : (2000 : Int) < l.length := by omega
      clear hi rl
      go_enter Tryz.func30, Tryz.ntmps30
      go_wp2_with fail
      refine (HO.out _).mono ?_
      rintro e w' ⟨rfl, rfl⟩
      go_wp2
      go_ret
      exact ⟨ret_int HV.out.symm, Below.refl _ _⟩
    · have e1 : ¬ (2000 : Int) < l.length := by omega
      have HV : Hid (kindF l h = if l.any (fun s => !keyB s) = true then 5 else 0) := Lib.hid (by unfold kindF; rw [if_neg (by rw [hi]; simp), if_neg h1])
      clear hi
      go_enter Tryz.func30, Tryz.ntmps30
      go_wp2_with fail
      refine (HO.out _).mono ?_
      rintro e w' ⟨rfl, rfl⟩
      go_wp2_with fail
      go_loopw [7, 18] (fun _ i wr => ∃ k : Nat, k ≤ l.length ∧ i = .int .i64 k ∧ Hid ((l.take k).any (fun s => !keyB s) = false) ∧ Below w.heap.size w wr) (fun _ i _ => l.length - (intOf i).toNat)
      case atStart => exact ⟨0, Nat.zero_le _, rfl, Lib.hid rfl, Below.refl _ _⟩
      case round =>
        obtain ⟨k, hk, rfl, hf, hb⟩ := hrel
        by_cases hlt : k < l.length
        · obtain ⟨t, ht⟩ : ∃ t, l[k]? = some t := ⟨_, List.getElem?_eq_getElem hlt⟩
          have HS : Hid ((l.take (k + 1)).any (fun s => !keyB s) = ((l.take k).any (fun s => !keyB s) || !keyB t)) := Lib.hid (by rw [take_snoc ht]; simp)
          have HM := Lib.hid (List.mem_of_getElem? ht)
          have HK := Lib.hid fun W => Key_any t W (by have := HS0.out t HM.out; omega)
          obtain ⟨b2', o2, rfl, _, hl2, hx2⟩ := strs_at rl ht
          have y2 := ((bcell hb).1 b2' (o2 + k) hl2).trans hx2
          clear ht hx2
          cases hp : keyB t
          all_goals
            have HP := Lib.hid hp
            rw [hp] at HK
            clear hp
            go_wp2_with (go_at_call 88; refine (HK.out _).mono ?_; rintro e w2 ⟨rfl, hb2⟩)
          · go_ret
            have : l.any (fun s => !keyB s) = true := List.any_eq_true.2 ⟨_, HM.out, by rw [HP.out]; rfl⟩
            rw [this] at HV
            exact ⟨ret_int HV.out.symm, hb.trans (hb2.mono hb.size)⟩
          · go_roundw
            case rel => exact ⟨k + 1, by omega, by go_num, Lib.hid (by rw [HS.out, hf.out, HP.out]; rfl), hb.trans (hb2.mono hb.size)⟩
            case measure => simp [intOf]; omega
        · have hk2 : k = l.length := by omega
          subst hk2
          rw [List.take_length] at hf
          rw [hf.out] at HV
          go_wp2
          go_ret
          exact ⟨ret_int HV.out.symm, hb⟩
end Go.Proofs.YtbkglhakhahfpaaGreatDoor
