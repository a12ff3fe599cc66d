/- 'append' onto a row of one's own, the source nil, empty or not; told by the blocks that are alive. No program is named. -/
import Derived.Test.YthifeaigdobonaaApp
namespace Go.Proofs.Ythifeaigdobonaa
open Go.RowKit

theorem Holds.grownNone {W w w' : World} {S : Hp} (h : Holds W w S) (hg : w.grownBy w' none) : Holds W w' S :=
  ⟨hg.os.trans h.os, hg.tape.trans h.tape, hg.output.trans h.output, Nat.le_trans h.size hg.size, h.once, fun b hb => Nat.lt_of_lt_of_le (h.low b hb) hg.size,
    fun b o hv => (hg.block b (h.low b (S.ok b o hv)) (by simp)).trans (h.get b o hv), h.up, fun k hk => (hg.block k (Nat.lt_of_lt_of_le hk h.size) (by simp)).trans (h.old k hk)⟩

section
variable {P : Program} {W w : World} {F : Hp}

theorem run_append_flow (t ty e : TypeId) (i : TypeInfo) (z : Value) (size bytes : Nat) (ht : P.underlying t = some (.slice e)) (hi : P.info? e = some i) (hz : i.zero = some z)
    (hsize : i.size = size) (hby : i.bytes = bytes) (hzs : z.cells.size = size) (hsz : 0 < size)
    (v : Value) (n : Nat) (xs : List Value) (S : Hp) (hrow : RowAt e size v n xs S) (h : Holds W w (S + F))
    (A : Option Addr) (m c : Nat) (news : List Value) (hl : news.length = m * size) (hnil : A = none → m = 0 ∧ c = 0) (hnews : 0 < m → ∃ ad, A = some ad ∧ ∀ j u, news[j]? = some u → w.cell? (ad.add j) = some u) (h1 : ∀ u ∈ news, u.oneCell' = true)
    (h63 : n + m ≤ maxLen) (hbytes : (n + m) * bytes ≤ 140737488355328) :
    ∃ v' w' S', (Builtin.append_ #[t, t] ty #[v, .slice A m c]).run P w = .ok v' w' ∧ RowAt e size v' (n + m) (xs ++ news) S' ∧ Holds W w' (S' + F) := by
  rcases Nat.eq_zero_or_pos m with h0 | h0
  · subst h0
    obtain rfl : news = [] := List.eq_nil_of_length_eq_zero (by simpa using hl)
    rw [List.append_nil, Nat.add_zero]
    rcases A with _ | ad
    · obtain ⟨_, rfl⟩ := hnil rfl
      have hr := hrow
      obtain ⟨_, ⟨rfl, rfl, rfl⟩ | ⟨g, cap, rest, rfl, h2, _, _, rfl⟩⟩ := hrow
      · exact ⟨_, w, emp, by simp [Builtin.append_, run_underlying ht, sizeOf, typeInfo, hi, Builtin.lenOf, Builtin.firstCells], hr, h⟩
      · exact ⟨_, w, _, by simp [Builtin.append_, run_underlying ht, sizeOf, typeInfo, hi, Builtin.lenOf, Builtin.firstCells, h2, storeCells], hr, h⟩
    · have hr := hrow
      obtain ⟨hx, ⟨rfl, rfl, rfl⟩ | ⟨g, cap, rest, rfl, h2, _, _, rfl⟩⟩ := hrow
      · obtain rfl : xs = [] := List.eq_nil_of_length_eq_zero (by simpa using hx)
        obtain ⟨v', w', hrun, r1, r2, _⟩ := run_append_own (P := P) w w.heap.size t ty e i z size bytes ht hi hz hsize hby hzs hsz (.slice none 0 0) 0 [] (World.ownsRow_nil w _ e size) ad 0 c [] (by simp) (by simp) (by simp) (by omega) (by omega) (Nat.le_refl _)
        obtain ⟨hx2, ⟨rfl, _⟩ | ⟨g, cap, cur, rfl, hle, hat, q1, q2, q3, q4⟩⟩ := r1
        · exact ⟨_, w', emp, hrun, hr, (h.right.of_eq (Hp.emp_add F).symm |>.grownNone r2)⟩
        · have hcur : cur = ([] ++ cur.toList).toArray := by simp
          refine ⟨_, w', _, hrun, RowAt.mk e size g 0 cap [] cur.toList (by simp) (Nat.zero_le _) q2 (by simpa using q3), ?_⟩
          rw [← hcur]
          exact h.right.grown r2 hle hat
      · have hrun := run_append_room_cells (P := P) (w := w) t ty e i ht hi g 0 n cap ad 0 c [] (by simp) (by simp) (by simp) (by omega) (by simp) (by simp)
        exact ⟨_, _, _, hrun, hr, by simpa [World.setCells] using h⟩
  · obtain ⟨ad, rfl, hc⟩ := hnews h0
    exact run_append_live t ty e i z size bytes ht hi hz hsize hby hzs hsz v n xs S hrow h ad m c news hl hc h1 h0 h63 hbytes

theorem step_append_flow {ops : Array Oper} {o : Oper} {a : Act} {K : Act → World → Prop} {Q : Exit → Act → World → Prop} {E : Prop}
    (hg : o.guard = none) (s x : Operand) (t : TypeId) (hop : o.op = Op.call { callee := Callee.builtin Builtin.append, args := #[s, x], argTypes := #[t, t] })
    (e : TypeId) (i : TypeInfo) (z : Value) (size bytes : Nat) (ht : P.underlying t = some (.slice e)) (hi : P.info? e = some i) (hz : i.zero = some z) (hsize : i.size = size) (hby : i.bytes = bytes) (hzs : z.cells.size = size) (hsz : 0 < size)
    (v : Value) (n : Nat) (xs : List Value) (S : Hp) (hs : a.eval s = v) (hrow : RowAt e size v n xs S) (h : Holds W w (S + F))
    (A : Option Addr) (m c : Nat) (news : List Value) (hx : a.eval x = .slice A m c) (hl : news.length = m * size) (hnil : A = none → m = 0 ∧ c = 0) (hnews : 0 < m → ∃ ad, A = some ad ∧ ∀ j u, news[j]? = some u → w.cell? (ad.add j) = some u) (h1 : ∀ u ∈ news, u.oneCell' = true)
    (h63 : n + m ≤ maxLen) (hbytes : (n + m) * bytes ≤ 140737488355328)
    (hK : ∀ A' cap w' S', RowAt e size (.slice A' (n + m) cap) (n + m) (xs ++ news) S' → Holds W w' (S' + F) → K (a.put o.dst (.slice A' (n + m) cap)) w') :
    if Region.wanted o (yielded ops a.tmps) = true then Oper.wp P o a w K Q else E := by
  have hw : Region.wanted o (yielded ops a.tmps) = true := by simp [Region.wanted, hg]
  rw [if_pos hw]
  obtain ⟨v', w', S', hrun, r1, r2⟩ := run_append_flow (P := P) (F := F) (W := W) (w := w) t o.type e i z size bytes ht hi hz hsize hby hzs hsz v n xs S hrow h A m c news hl hnil hnews h1 h63 hbytes
  have hform : ∃ A' cap, v' = .slice A' (n + m) cap := by
    rcases r1.2 with ⟨rfl, e, _⟩ | ⟨g, cap, rest, rfl, _⟩
    · exact ⟨none, 0, by rw [e]⟩
    · exact ⟨_, _, rfl⟩
  obtain ⟨A', cap, rfl⟩ := hform
  unfold Oper.wp
  simp [execOp, hop, resolve, invoke, builtin, hs, hx, hrun, Result.andThen]
  exact hK A' cap w' S' r1 r2

theorem wpList_append_flow {ops : Array Oper} {rest : List Oper} {o : Oper} {a : Act} {Q : Exit → Act → World → Prop} (hgd : o.guard = none) (s x : Operand) (t : TypeId)
    (ho : o.op = .call { callee := .builtin .append, args := #[s, x], argTypes := #[t, t] })
    (e : TypeId) (i : TypeInfo) (z : Value) (size bytes : Nat) (ht : P.underlying t = some (.slice e)) (hi : P.info? e = some i) (hz : i.zero = some z) (hsize : i.size = size) (hby : i.bytes = bytes) (hzs : z.cells.size = size) (hsz : 0 < size)
    (v : Value) (n : Nat) (xs : List Value) (S : Hp) (hs : a.eval s = v) (hrow : RowAt e size v n xs S) (h : Holds W w (S + F))
    (A : Option Addr) (m c : Nat) (news : List Value) (hx : a.eval x = .slice A m c) (hl : news.length = m * size) (hnil : A = none → m = 0 ∧ c = 0) (hnews : 0 < m → ∃ ad, A = some ad ∧ ∀ j u, news[j]? = some u → w.cell? (ad.add j) = some u) (h1 : ∀ u ∈ news, u.oneCell' = true)
    (h63 : n + m ≤ maxLen) (hbytes : (n + m) * bytes ≤ 140737488355328)
    (hK : ∀ A' cap w' S', RowAt e size (.slice A' (n + m) cap) (n + m) (xs ++ news) S' → Holds W w' (S' + F) → wpList P ops Q rest (a.put o.dst (.slice A' (n + m) cap)) w') :
    wpList P ops Q (o :: rest) a w := by
  refine wpList_plain hgd fun K hKK => ?_
  have := step_append_flow (ops := ops) (K := K) (Q := Q) (E := True) hgd s x t ho e i z size bytes ht hi hz hsize hby hzs hsz v n xs S hs hrow h A m c news hx hl hnil hnews h1 h63 hbytes (fun A' cap w' S' r1 r2 => hKK _ _ (hK A' cap w' S' r1 r2))
  rwa [if_pos (by simp [Region.wanted, hgd])] at this
end

/-- A row as a source. -/
theorem row_src {W w : World} {S F : Hp} {e : TypeId} {size : Nat} {A : Option Addr} {m c : Nat} {xs : List Value} (h : RowAt e size (.slice A m c) m xs S) (hh : Holds W w (S + F)) :
    xs.length = m * size ∧ (A = none → m = 0 ∧ c = 0) ∧ (0 < m → ∃ ad, A = some ad ∧ ∀ j u, xs[j]? = some u → w.cell? (ad.add j) = some u) := by
  obtain ⟨hx, ⟨hv, h0, _⟩ | ⟨g, cap, rest, hv, _, _, _, rfl⟩⟩ := h
  · injection hv with h1 h2 h3
    exact ⟨hx, fun _ => ⟨h2, h3⟩, fun h => by omega⟩
  · injection hv with h1 h2 h3
    refine ⟨hx, (fun e => by rw [h1] at e; cases e), fun _ => ⟨_, h1, fun j u hu => ?_⟩⟩
    rw [add_none, hh.cell]
    simpa [List.getElem?_append, (List.getElem?_eq_some_iff.1 hu).1] using hu

end Go.Proofs.Ythifeaigdobonaa
