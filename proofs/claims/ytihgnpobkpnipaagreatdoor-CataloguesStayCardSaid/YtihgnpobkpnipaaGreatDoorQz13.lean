/- Texts of the proof of a law, put together, part 13 of 41. Conditions: none beyond those that each theorem names. -/
import Derived.Test.YtihgnpobkpnipaaGreatDoorQz3
import Derived.Test.YtihgnpobkpnipaaGreatDoorQz9
import Derived.Test.YtihgnpobkpnipaaGreatDoorQz12
import Derived.Maps.AppendAt
namespace Go.Proofs.YtihgnpobkpnipaaGreatDoor
open Go.RowKit Go.Sort Go.Maps
def rintE : Value → Option (DataW Unit × List MemPlace)
  | .int .i64 n => some (.lit (.int .i64 n), [])
  | _ => none
/-- numbers, by names. -/
def TMi : Mty Int := { t := 126, e := 3, V := .int .i64, d := fun n => .lit (.int .i64 n), R := rintE, z := 0 }
theorem TMi.ok : TMi.Ok := ⟨Tryz.underlying126, fun w => by kernel_rfl, fun _ => rfl, fun v a ps h => by
  unfold TMi rintE at h
  simp only at h
  split at h
  · simp at h; obtain ⟨h, _⟩ := h; subst h; rfl
  · cases h⟩
/-- a row's header: where it begins (none: nowhere), how long it is, how far it may grow. -/
abbrev Hdr := Option (Nat × Nat) × Nat × Nat
def hdrV (h : Hdr) : Value := .slice (h.1.map fun p => ⟨p.1, p.2, none⟩) h.2.1 h.2.2
def hdrE : Value → Option (DataW Unit × List MemPlace)
  | .slice none n c => some (.agg [.nil, .lit (.int .i64 n), .lit (.int .i64 c)], [])
  | .slice (some ⟨b, o, none⟩) n c => some (.agg [.lit (.int .i64 b), .lit (.int .i64 o), .lit (.int .i64 n), .lit (.int .i64 c)], [])
  | _ => none
def hdrD (h : Hdr) : DataW Unit := match h.1 with
  | none => .agg [.nil, .lit (.int .i64 h.2.1), .lit (.int .i64 h.2.2)]
  | some p => .agg [.lit (.int .i64 p.1), .lit (.int .i64 p.2), .lit (.int .i64 h.2.1), .lit (.int .i64 h.2.2)]
theorem hdr_rd (h : Hdr) : hdrE (hdrV h) = some (hdrD h, []) := by
  obtain ⟨a, n, c⟩ := h
  cases a <;> rfl
theorem hdr_inv {v : Value} {a : Hdr} {ps : List MemPlace} (h : hdrE v = some (hdrD a, ps)) : v = hdrV a := by
  obtain ⟨a, n, c⟩ := a
  unfold hdrE at h
  split at h
  · cases a with
    | none =>
      simp only [hdrD, Option.some.injEq, Prod.mk.injEq, DataW.agg.injEq, List.cons.injEq, DataW.lit.injEq, Lit.int.injEq, true_and, and_true] at h
      obtain ⟨⟨h1, h2⟩, _⟩ := h
      rw [show _ = n from Int.ofNat.inj h1, show _ = c from Int.ofNat.inj h2]; rfl
    | some p => simp [hdrD] at h
  · cases a with
    | none => simp [hdrD] at h
    | some p =>
      simp only [hdrD, Option.some.injEq, Prod.mk.injEq, DataW.agg.injEq, List.cons.injEq, DataW.lit.injEq, Lit.int.injEq, true_and, and_true] at h
      obtain ⟨⟨h1, h2, h3, h4⟩, _⟩ := h
      obtain ⟨b, o⟩ := p
      rw [show _ = b from Int.ofNat.inj h1, show _ = o from Int.ofNat.inj h2, show _ = n from Int.ofNat.inj h3, show _ = c from Int.ofNat.inj h4]; rfl
  · cases h
/-- rows of strings, by names; rows of origins. -/
def TMh : Mty Hdr := { t := 129, e := 45, V := hdrV, d := hdrD, R := hdrE, z := (none, 0, 0) }
theorem TMh.ok : TMh.Ok := ⟨Tryz.underlying129, fun w => by kernel_rfl, hdr_rd, fun _ _ _ h => hdr_inv h⟩
end Go.Proofs.YtihgnpobkpnipaaGreatDoor
namespace Go.Proofs.YtihgnpobkpnipaaGreatDoor
open Go.RowKit Go.Sort
theorem run_append_room_o {P : Program} (w : World) (t ty e : TypeId) (i : TypeInfo) (ht : P.underlying t = some (.slice e)) (hi : P.info? e = some i)
    (g o sLen sCap : Nat) (cur : Array Value) (hg : w.heap[g]? = some (.cells cur e (0, 0)))
    (a : Addr) (m c : Nat) (news : List Value) (hl : news.length = m * i.size) (hnews : ∀ j u, news[j]? = some u → w.cell? (a.add j) = some u) (h1 : ∀ u ∈ news, u.oneCell' = true)
    (hroom : sLen + m ≤ sCap) (hfit : o + sLen * i.size + news.length ≤ cur.size) :
    (Builtin.append_ #[t, t] ty #[.slice (some ⟨g, o, none⟩) sLen sCap, .slice (some a) m c]).run P w =
      .ok (.slice (some ⟨g, o, none⟩) (sLen + m) sCap) (w.setRow g (cur.toList.take (o + sLen * i.size) ++ news ++ cur.toList.drop (o + sLen * i.size + news.length)).toArray) := by
  have hf := run_firstCells_some (P := P) w i.size m a m c news hl hnews
  have hst := run_storeCells_at P g (o + sLen * i.size) e news 0 cur w hg (by simpa using hfit) h1
  simp only [Nat.add_zero] at hst
  simp [Builtin.append_, run_underlying ht, sizeOf, typeInfo, hi, Builtin.lenOf, hroom, hf, Addr.add_lit, hst]
/-- a row of strings that is the owner's, wherever it begins in its block. -/
def OwnO (w : World) (B : Nat) (v : Value) (l : List ByteArray) : Prop :=
  (v = .slice none 0 0 ∧ l = []) ∨ ∃ g o cap cur, v = .slice (some ⟨g, o, none⟩) l.length cap ∧ B ≤ g ∧ w.heap[g]? = some (.cells cur 9 (0, 0)) ∧ l.length ≤ cap ∧ cap ≤ maxLen ∧ o + cap = cur.size ∧ (cur.toList.drop o).take l.length = l.map Value.string
theorem strs_flat (l : List ByteArray) : l.flatMap TS.f = l.map Value.string := by
  induction l with
  | nil => rfl
  | cons x l ih => rw [List.flatMap_cons, ih]; rfl
theorem OwnO.of_own {w : World} {B : Nat} {v : Value} {l : List ByteArray} (h : OwnR TS w B v l) : OwnO w B v l := by
  rcases h.2 with ⟨h1, h2⟩ | ⟨g, cap, cur, h1, h2, h3, h4, h5, h6, h7⟩
  · exact .inl ⟨h1, List.eq_nil_of_length_eq_zero h2⟩
  · refine .inr ⟨g, 0, cap, cur, h1, h2, h3, h4, h5, ?_, ?_⟩
    · rw [h6]; show 0 + cap = cap * 1; omega
    · rw [List.drop_zero, ← strs_flat, ← h7]; show _ = List.take (l.length * 1) _; rw [Nat.mul_one]
theorem OwnO.lt {w : World} {B : Nat} {v : Value} {l : List ByteArray} (h : OwnO w B v l) : ∀ k, v.ownBlock = some k → B ≤ k ∧ k < w.heap.size := by
  intro k hk
  rcases h with ⟨rfl, _⟩ | ⟨g, o, cap, cur, rfl, hb, hg, _⟩
  · cases hk
  · injection hk with hk
    subst hk
    exact ⟨hb, blk_lt hg⟩
theorem OwnO.keep {w w' : World} {B : Nat} {v : Value} {l : List ByteArray} (h : OwnO w B v l) (hk : ∀ k, v.ownBlock = some k → w'.heap[k]? = w.heap[k]?) : OwnO w' B v l := by
  rcases h with h | ⟨g, o, cap, cur, hv, hb, hg, h3⟩
  · exact .inl h
  · exact .inr ⟨g, o, cap, cur, hv, hb, (hk g (by rw [hv]; rfl)).trans hg, h3⟩
theorem OwnO.below {w w' : World} {B : Nat} {v : Value} {l : List ByteArray} (h : OwnO w B v l) (hb : Below w.heap.size w w') : OwnO w' B v l := h.keep fun k hk => hb.block k (h.lt k hk).2
theorem OwnO.form {w : World} {B : Nat} {v : Value} {l : List ByteArray} (h : OwnO w B v l) : ∃ a cap, v = .slice a l.length cap ∧ l.length ≤ cap ∧ cap ≤ maxLen := by
  rcases h with ⟨rfl, rfl⟩ | ⟨g, o, cap, cur, hv, hb, hg, h3, h4, _⟩
  · exact ⟨none, 0, rfl, Nat.le_refl _, Nat.zero_le _⟩
  · exact ⟨_, cap, hv, h3, h4⟩
theorem OwnO.at {w : World} {B : Nat} {v : Value} {l : List ByteArray} (h : OwnO w B v l) {k : Nat} {x : ByteArray} (hx : l[k]? = some x) : ∃ g o cap, v = .slice (some ⟨g, o, none⟩) l.length cap ∧ w.cell? ⟨g, o + k, none⟩ = some (.string x) := by
  rcases h with ⟨_, rfl⟩ | ⟨g, o, cap, cur, hv, hb, hg, h3, _, h5, h6⟩
  · simp at hx
  · refine ⟨g, o, cap, hv, ?_⟩
    have hlt := (List.getElem?_eq_some_iff.1 hx).1
    have e : ((cur.toList.drop o).take l.length)[k]? = some (.string x) := by rw [h6, List.getElem?_map, hx]; rfl
    rw [List.getElem?_take_of_lt hlt, List.getElem?_drop] at e
    rw [blk_cell hg]
    simpa using e
/-- cut from the front. -/
theorem OwnO.tail {w : World} {B : Nat} {g o cap : Nat} {x : ByteArray} {l : List ByteArray} (h : OwnO w B (.slice (some ⟨g, o, none⟩) (l.length + 1) cap) (x :: l)) : OwnO w B (.slice (some ⟨g, o + 1, none⟩) l.length (cap - 1)) l := by
  rcases h with ⟨h, _⟩ | ⟨g', o', cap', cur, hv, hb, hg, h3, h4, h5, h6⟩
  · cases h
  · injection hv with e1 e2 e3
    injection e1 with e1
    injection e1 with e4 e5 _
    subst e3 e4 e5
    simp only [List.length_cons] at h3 h6
    refine .inr ⟨g, o + 1, cap - 1, cur, rfl, hb, hg, by omega, by omega, by omega, ?_⟩
    have h7 : (cur.toList.drop o).take (l.length + 1) = Value.string x :: l.map Value.string := h6
    cases hd : cur.toList.drop o with
    | nil => rw [hd] at h7; simp at h7
    | cons y r =>
      rw [hd, List.take_succ_cons] at h7
      injection h7 with _ h7
      have e : cur.toList.drop (o + 1) = r := by rw [← List.drop_drop, hd]; rfl
      rw [e, h7]
/-- one more string. -/
theorem OwnO.app {w : World} {B : Nat} {v : Value} {l : List ByteArray} (h : OwnO w B v l) (ty : TypeId) (a : Addr) (c : Nat) (x : ByteArray) (ha : w.cell? a = some (.string x)) (hlen : l.length ≤ 1000000) (hB : B ≤ w.heap.size) :
    ∃ v' w', (Builtin.append_ #[45, 45] ty #[v, .slice (some a) 1 c]).run Tryz.prog w = .ok v' w' ∧ OwnO w' B v' (l ++ [x]) ∧ w.grownBy w' v.ownBlock ∧ (v'.ownBlock = v.ownBlock ∨ v'.ownBlock = some w.heap.size) := by
  obtain ⟨i, hi, hz0, hz1, hz2⟩ := info_parts TS.ok.info
  have hn : ∀ j u, ([Value.string x] : List Value)[j]? = some u → w.cell? (a.add j) = some u := by
    intro j u hj
    match j, hj with
    | 0, hj =>
      simp only [List.getElem?_cons_zero, Option.some.injEq] at hj
      subst hj
      simpa [Addr.add] using ha
  have h1 : ∀ u ∈ ([Value.string x] : List Value), u.oneCell' = true := fun u hu => by
    rw [List.mem_singleton] at hu; subst hu; rfl
  rcases h with ⟨rfl, rfl⟩ | ⟨g, o, cap, cur, rfl, hb, hg, h3, h4, h5, h6⟩
  · obtain ⟨v', w', hr, ho, hg, _, hb⟩ := run_append_own_at (P := Tryz.prog) (w := w) B 45 ty TS.e i TS.z TS.k TS.b TS.ok.sl hi hz0 hz1 hz2 TS.ok.zs TS.ok.pos (.slice none 0 0) 0 [] (World.ownsRow_nil w B _ _) a 1 c [.string x] rfl hn h1 (by decide) (by decide) hB
    exact ⟨v', w', hr, OwnO.of_own (l := [x]) ho, hg, hb⟩
  · by_cases hroom : l.length + 1 ≤ cap
    · have hr := run_append_room_o (P := Tryz.prog) w 45 ty TS.e i TS.ok.sl hi g o l.length cap cur hg a 1 c [.string x] (by rw [hz1]; rfl) hn h1 hroom (by rw [hz1]; show o + l.length * 1 + 1 ≤ _; omega)
      rw [hz1, show TS.k = 1 from rfl, Nat.mul_one] at hr
      refine ⟨_, _, hr, .inr ⟨g, o, cap, _, by rw [List.length_append]; rfl, hb, setRow_heap w g cur _ _ _ hg, by rw [List.length_append]; exact hroom, h4, ?_, ?_⟩, ⟨rfl, rfl, rfl, by simp, fun k _ hk => setRow_other w g k _ (fun e => hk (by simp [Value.ownBlock, e]))⟩, .inl rfl⟩
      · simp only [List.size_toArray, List.length_append, List.length_take, List.length_drop, Array.length_toList, List.length_cons, List.length_nil]
        omega
      · have e1 : (cur.toList.take (o + l.length)).drop o = l.map Value.string := by rw [List.drop_take, show o + l.length - o = l.length by omega]; exact h6
        have e2 : o ≤ (cur.toList.take (o + l.length)).length := by
          rw [List.length_take]
          have : cur.toList.length = cur.size := Array.length_toList
          omega
        show List.take (l ++ [x]).length (List.drop o (cur.toList.take (o + l.length) ++ [Value.string x] ++ cur.toList.drop (o + l.length + 1))) = _
        rw [List.append_assoc, List.drop_append_of_le_length e2, e1, ← List.append_assoc, List.take_append_of_le_length (by simp), List.take_of_length_le (by simp), List.map_append]
        rfl
    · have holds : ∀ j u, (l.map Value.string)[j]? = some u → w.cell? ((⟨g, o, none⟩ : Addr).add j) = some u := by
        intro j u hu
        have hlt : j < l.length := by
          have := (List.getElem?_eq_some_iff.1 hu).1
          simpa using this
        rw [← h6, List.getElem?_take_of_lt hlt, List.getElem?_drop] at hu
        rw [Addr.add_lit, blk_cell hg]
        simpa using hu
      have hr := run_append_grow (P := Tryz.prog) w 45 ty TS.e i TS.z TS.ok.sl hi hz0 ⟨g, o, none⟩ l.length cap (l.map Value.string) (by rw [hz1]; show _ = _ * 1; simp) holds a 1 c [.string x] (by rw [hz1]; rfl) hn (by omega) (by omega) (growslice_fits (by omega) (by rw [hz2]; show _ * 16 ≤ _; omega))
      have hge := grownCap_ge w (l.length + 1) cap TS.e
      have hcm : grownCap w (l.length + 1) cap TS.e ≤ maxLen := grownCap_le_maxLen w (l.length + 1) cap TS.e (by show _ ≤ 2 ^ 63 - 1; omega)
      refine ⟨_, _, hr, .inr ⟨w.heap.size, 0, grownCap w (l.length + 1) cap TS.e, _, by rw [List.length_append]; rfl, hB, heap_alloc_new w.drew _, by rw [List.length_append]; exact hge, hcm, ?_, ?_⟩, ⟨rfl, rfl, rfl, by simp, fun k hk _ => heap_alloc_old w.drew _ hk⟩, .inr rfl⟩
      · have hz : TS.z.cells.size = 1 := TS.ok.zs
        simp only [Array.size_append, List.size_toArray, size_zeroCells, hz, List.length_map]
        show 0 + _ = l.length + 1 + _
        omega
      · simp only [Array.toList_append, List.append_assoc, List.drop_zero]
        rw [← List.append_assoc, List.take_append_of_le_length (by simp), List.take_of_length_le (by simp), List.map_append]
        rfl
end Go.Proofs.YtihgnpobkpnipaaGreatDoor
namespace Go.Proofs.YtihgnpobkpnipaaGreatDoor
open Go.RowKit Go.Sort Go.Maps
/-- rows by names, with their headers. -/
abbrev Fds := Sm (Hdr × List ByteArray)
def Fds.hd (F : Fds) : Sm Hdr := F.map fun p => (p.1, p.2.1)
end Go.Proofs.YtihgnpobkpnipaaGreatDoor
namespace Go.Proofs.YtihgnpobkpnipaaGreatDoor
open Go.RowKit Go.Sort Go.Maps
end Go.Proofs.YtihgnpobkpnipaaGreatDoor
