/- 'append' onto a slice that owns its row, told by the blocks that are alive: the slice's row afterwards, everything else as it was. No program is named. -/
import Derived.Test.YthifeaigdobonaaSl
import Derived.Deep.RegionLaw
import Derived.Deep.RegionLawGrows
namespace Go.Proofs.Ythifeaigdobonaa
open Go.RowKit

theorem add_none (g j : Nat) : (⟨g, 0, none⟩ : Addr).add j = ⟨g, j, none⟩ := by unfold Addr.add; split <;> simp_all

theorem Holds.grown {W w w' : World} {S : Hp} {g : Nat} {o : Obj} (h : Holds W w S) (hg : w.grownBy w' none) (hle : w.heap.size ≤ g) (hat : w'.heap[g]? = some o) : Holds W w' (pt g o + S) := by
  have h0 : S.dom g = 0 := by
    rcases Nat.eq_zero_or_pos (S.dom g) with e | e
    · exact e
    · have := h.low _ e; omega
  refine ⟨hg.os.trans h.os, hg.tape.trans h.tape, hg.output.trans h.output, Nat.le_trans h.size hg.size, fun b => ?_, fun b hb => ?_, fun b o' hv => ?_, fun b hb => ?_, fun k hk => ?_⟩
  · simp only [Hp.dom_add, pt]
    have := h.once b
    split
    · rename_i e; subst e; omega
    · omega
  · simp only [Hp.dom_add, pt] at hb
    split at hb
    · rename_i e; subst e; exact (Array.getElem?_eq_some_iff.1 hat).1
    · exact Nat.lt_of_lt_of_le (h.low b (by omega)) hg.size
  · rw [Hp.val_add] at hv
    rcases hv with ⟨rfl, rfl⟩ | hv
    · exact hat
    · rw [hg.block b (h.low b (S.ok b o' hv)) (by simp)]
      exact h.get b o' hv
  · simp only [Hp.dom_add, pt] at hb
    split at hb
    · rename_i e; subst e; exact Nat.le_trans h.size hle
    · exact h.up b (by omega)
  · rw [hg.block k (Nat.lt_of_lt_of_le hk h.size) (by simp)]; exact h.old k hk

theorem RowAt.grown {W w w' : World} {F : Hp} {e : TypeId} {size : Nat} {v' : Value} {n : Nat} {xs : List Value} (h : Holds W w F) (ho : w'.ownsRow w.heap.size e size v' n xs) (hg : w.grownBy w' none) (hn : 0 < n) :
    ∃ S', RowAt e size v' n xs S' ∧ Holds W w' (S' + F) := by
  obtain ⟨hx, ⟨_, h0⟩ | ⟨g, cap, cur, rfl, hle, hat, h1, h2, h3, h4⟩⟩ := ho
  · omega
  have hcur : cur = (xs ++ cur.toList.drop (n * size)).toArray := by
    apply Array.ext'
    simp only [← h4, List.take_append_drop]
  have hlen : (xs ++ cur.toList.drop (n * size)).length = cap * size := by rw [← h4, List.take_append_drop]; simpa using h3
  refine ⟨_, RowAt.mk e size g n cap xs (cur.toList.drop (n * size)) hx h1 h2 hlen, ?_⟩
  rw [← hcur]
  exact h.grown hg hle hat

section
variable {P : Program} {W w : World} {F : Hp}

theorem run_append_live (t ty e : TypeId) (i : TypeInfo) (z : Value) (size bytes : Nat) (ht : P.underlying t = some (.slice e)) (hi : P.info? e = some i) (hz : i.zero = some z)
    (hsize : i.size = size) (hby : i.bytes = bytes) (hzs : z.cells.size = size) (hsz : 0 < size)
    (v : Value) (n : Nat) (xs : List Value) (S : Hp) (hrow : RowAt e size v n xs S) (h : Holds W w (S + F))
    (a : Addr) (m c : Nat) (news : List Value) (hl : news.length = m * size) (hnews : ∀ j u, news[j]? = some u → w.cell? (a.add j) = some u) (h1 : ∀ u ∈ news, u.oneCell' = true)
    (hm : 0 < m) (h63 : n + m ≤ maxLen) (hbytes : (n + m) * bytes ≤ 140737488355328) :
    ∃ v' w' S', (Builtin.append_ #[t, t] ty #[v, .slice (some a) m c]).run P w = .ok v' w' ∧ RowAt e size v' (n + m) (xs ++ news) S' ∧ Holds W w' (S' + F) := by
  obtain ⟨hx, ⟨rfl, rfl, rfl⟩ | ⟨g, cap, rest, rfl, h2, h3, h4, rfl⟩⟩ := hrow
  · obtain rfl : xs = [] := List.eq_nil_of_length_eq_zero (by simpa using hx)
    obtain ⟨v', w', hrun, r1, r2, _⟩ := run_append_own (P := P) w w.heap.size t ty e i z size bytes ht hi hz hsize hby hzs hsz (.slice none 0 0) 0 [] (World.ownsRow_nil w _ e size) a m c news hl hnews h1 h63 hbytes (Nat.le_refl _)
    obtain ⟨S', s1, s2⟩ := RowAt.grown h.right r1 r2 (by omega)
    exact ⟨v', w', S', hrun, s1, s2⟩
  · by_cases hroom : n + m ≤ cap
    · subst hsize
      have hlen : ((xs ++ rest).toArray).size = cap * i.size := by simpa using h4
      have hcap : n * i.size + m * i.size ≤ cap * i.size := by rw [← Nat.add_mul]; exact Nat.mul_le_mul_right _ hroom
      have hrun := run_append_room (P := P) w t ty e i ht hi g n cap (xs ++ rest).toArray h.at a m c news hl hnews h1 hroom (by rw [hlen, hl]; exact hcap)
      refine ⟨_, _, _, hrun, RowAt.mk e i.size g (n + m) cap (xs ++ news) (rest.drop news.length) ?_ hroom h3 ?_, ?_⟩
      · rw [List.length_append, hx, hl, Nat.add_mul]
      · have hr : rest.length = cap * i.size - n * i.size := by rw [List.length_append, hx] at h4; omega
        rw [List.length_append, List.length_append, List.length_drop, hx, hl, hr]; omega
      · have e1 : (xs ++ rest).toArray.toList.take (n * i.size) ++ news ++ (xs ++ rest).toArray.toList.drop (n * i.size + news.length) = xs ++ news ++ rest.drop news.length := by
          simp only [← hx]
          rw [List.take_left, ← List.drop_drop, List.drop_left]
        rw [e1]
        exact h.setRow
    · obtain ⟨v', w', hrun, r1, r2⟩ := run_append_arg_grows (P := P) w t ty e i z size bytes ht hi hz hsize hby hzs hsz ⟨g, 0, none⟩ n cap xs hx
        (fun j u hu => by rw [add_none, h.cell]; simpa [List.getElem?_append, (List.getElem?_eq_some_iff.1 hu).1] using hu)
        a m c news hl hnews (by omega) h63 hbytes
      obtain ⟨S', s1, s2⟩ := RowAt.grown h.right r1 r2 (by omega)
      exact ⟨v', w', S', hrun, s1, s2⟩

theorem step_append_live {ops : Array Oper} {o : Oper} {a : Act} {K : Act → World → Prop} {Q : Exit → Act → World → Prop} {E : Prop}
    (hg : o.guard = none) (s x : Operand) (t : TypeId) (hop : o.op = Op.call { callee := Callee.builtin Builtin.append, args := #[s, x], argTypes := #[t, t] })
    (e : TypeId) (i : TypeInfo) (z : Value) (size bytes : Nat) (ht : P.underlying t = some (.slice e)) (hi : P.info? e = some i) (hz : i.zero = some z) (hsize : i.size = size) (hby : i.bytes = bytes) (hzs : z.cells.size = size) (hsz : 0 < size)
    (v : Value) (n : Nat) (xs : List Value) (S : Hp) (hs : a.eval s = v) (hrow : RowAt e size v n xs S)
    (ad : Addr) (m c : Nat) (news : List Value) (hx : a.eval x = .slice (some ad) m c) (hl : news.length = m * size) (h1 : ∀ u ∈ news, u.oneCell' = true) (hm : 0 < m) (h63 : n + m ≤ maxLen) (hbytes : (n + m) * bytes ≤ 140737488355328)
    (h : Holds W w (S + F)) (hnews : ∀ j u, news[j]? = some u → w.cell? (ad.add j) = some u)
    (hK : ∀ g cap w' S', RowAt e size (.slice (some ⟨g, 0, none⟩) (n + m) cap) (n + m) (xs ++ news) S' → Holds W w' (S' + F) → K (a.put o.dst (.slice (some ⟨g, 0, none⟩) (n + m) cap)) w') :
    if Region.wanted o (yielded ops a.tmps) = true then Oper.wp P o a w K Q else E := by
  have hw : Region.wanted o (yielded ops a.tmps) = true := by simp [Region.wanted, hg]
  rw [if_pos hw]
  obtain ⟨v', w', S', hrun, r1, r2⟩ := run_append_live (P := P) (F := F) (W := W) (w := w) t o.type e i z size bytes ht hi hz hsize hby hzs hsz v n xs S hrow h ad m c news hl hnews h1 hm h63 hbytes
  obtain ⟨g, cap, rest, rfl, _⟩ := r1.some (by omega)
  unfold Oper.wp
  simp [execOp, hop, resolve, invoke, builtin, hs, hx, hrun, Result.andThen]
  exact hK g cap w' S' r1 r2

theorem wpList_append_live {ops : Array Oper} {rest : List Oper} {o : Oper} {a : Act} {Q : Exit → Act → World → Prop} (hgd : o.guard = none) (s x : Operand) (t : TypeId)
    (ho : o.op = .call { callee := .builtin .append, args := #[s, x], argTypes := #[t, t] })
    (e : TypeId) (i : TypeInfo) (z : Value) (size bytes : Nat) (ht : P.underlying t = some (.slice e)) (hi : P.info? e = some i) (hz : i.zero = some z) (hsize : i.size = size) (hby : i.bytes = bytes) (hzs : z.cells.size = size) (hsz : 0 < size)
    (v : Value) (n : Nat) (xs : List Value) (S : Hp) (hs : a.eval s = v) (hrow : RowAt e size v n xs S)
    (ad : Addr) (m c : Nat) (news : List Value) (hx : a.eval x = .slice (some ad) m c) (hl : news.length = m * size) (h1 : ∀ u ∈ news, u.oneCell' = true) (hm : 0 < m) (h63 : n + m ≤ maxLen) (hbytes : (n + m) * bytes ≤ 140737488355328)
    (h : Holds W w (S + F)) (hnews : ∀ j u, news[j]? = some u → w.cell? (ad.add j) = some u)
    (hK : ∀ g cap w' S', RowAt e size (.slice (some ⟨g, 0, none⟩) (n + m) cap) (n + m) (xs ++ news) S' → Holds W w' (S' + F) → wpList P ops Q rest (a.put o.dst (.slice (some ⟨g, 0, none⟩) (n + m) cap)) w') :
    wpList P ops Q (o :: rest) a w := by
  refine wpList_plain hgd fun K hKK => ?_
  have := step_append_live (ops := ops) (K := K) (Q := Q) (E := True) hgd s x t ho e i z size bytes ht hi hz hsize hby hzs hsz v n xs S hs hrow ad m c news hx hl h1 hm h63 hbytes h hnews (fun g cap w' S' r1 r2 => hKK _ _ (hK g cap w' S' r1 r2))
  rwa [if_pos (by simp [Region.wanted, hgd])] at this

theorem Holds.news {g : Nat} {l : List Value} {t : TypeId} {fr : Nat × Nat} {S : Hp} (h : Holds W w (pt g (.cells l.toArray t fr) + S)) : ∀ j u, l[j]? = some u → w.cell? ((⟨g, 0, none⟩ : Addr).add j) = some u := by
  intro j u hu
  rw [add_none, h.cell]
  simpa using hu

/-- One element appended, out of the new block 'src' in which the statement has laid it. As a step of a region that draws. -/
theorem step_append_one {ops : Array Oper} {o : Oper} {a : Act} {K : Act → World → Prop} {Q : Exit → Act → World → Prop} {E : Prop}
    (hg : o.guard = none) (s x : Operand) (t : TypeId) (hop : o.op = Op.call { callee := Callee.builtin Builtin.append, args := #[s, x], argTypes := #[t, t] })
    (e : TypeId) (i : TypeInfo) (z : Value) (size bytes : Nat) (ht : P.underlying t = some (.slice e)) (hi : P.info? e = some i) (hz : i.zero = some z) (hsize : i.size = size) (hby : i.bytes = bytes) (hzs : z.cells.size = size) (hsz : 0 < size)
    (v : Value) (n : Nat) (xs : List Value) (S : Hp) (hs : a.eval s = v) (hrow : RowAt e size v n xs S)
    (src c : Nat) (tt : TypeId) (news : List Value) (hx : a.eval x = .slice (some ⟨src, 0, none⟩) 1 c) (hl : news.length = size) (h1 : ∀ u ∈ news, u.oneCell' = true) (h63 : n + 1 ≤ maxLen) (hbytes : (n + 1) * bytes ≤ 140737488355328)
    (h : Holds W w (pt src (.cells news.toArray tt (0, 0)) + (S + F)))
    (hK : ∀ g cap w' S', RowAt e size (.slice (some ⟨g, 0, none⟩) (n + 1) cap) (n + 1) (xs ++ news) S' → Holds W w' (S' + F) → K (a.put o.dst (.slice (some ⟨g, 0, none⟩) (n + 1) cap)) w') :
    if Region.wanted o (yielded ops a.tmps) = true then Oper.wp P o a w K Q else E :=
  step_append_live (F := pt src (.cells news.toArray tt (0, 0)) + F) hg s x t hop e i z size bytes ht hi hz hsize hby hzs hsz v n xs S hs hrow ⟨src, 0, none⟩ 1 c news hx (by rw [hl, Nat.one_mul]) h1 (by decide) h63 hbytes
    (h.of_eq (by ac_rfl)) h.news (fun g cap w' S' r1 r2 => hK g cap w' S' r1 ((r2.of_eq (show _ = (S' + F) + pt src (.cells news.toArray tt (0, 0)) from by ac_rfl)).left))

theorem wpList_append_one {ops : Array Oper} {rest : List Oper} {o : Oper} {a : Act} {Q : Exit → Act → World → Prop} (hgd : o.guard = none) (s x : Operand) (t : TypeId)
    (ho : o.op = .call { callee := .builtin .append, args := #[s, x], argTypes := #[t, t] })
    (e : TypeId) (i : TypeInfo) (z : Value) (size bytes : Nat) (ht : P.underlying t = some (.slice e)) (hi : P.info? e = some i) (hz : i.zero = some z) (hsize : i.size = size) (hby : i.bytes = bytes) (hzs : z.cells.size = size) (hsz : 0 < size)
    (v : Value) (n : Nat) (xs : List Value) (S : Hp) (hs : a.eval s = v) (hrow : RowAt e size v n xs S)
    (src c : Nat) (tt : TypeId) (news : List Value) (hx : a.eval x = .slice (some ⟨src, 0, none⟩) 1 c) (hl : news.length = size) (h1 : ∀ u ∈ news, u.oneCell' = true) (h63 : n + 1 ≤ maxLen) (hbytes : (n + 1) * bytes ≤ 140737488355328)
    (h : Holds W w (pt src (.cells news.toArray tt (0, 0)) + (S + F)))
    (hK : ∀ g cap w' S', RowAt e size (.slice (some ⟨g, 0, none⟩) (n + 1) cap) (n + 1) (xs ++ news) S' → Holds W w' (S' + F) → wpList P ops Q rest (a.put o.dst (.slice (some ⟨g, 0, none⟩) (n + 1) cap)) w') :
    wpList P ops Q (o :: rest) a w :=
  wpList_append_live (F := pt src (.cells news.toArray tt (0, 0)) + F) hgd s x t ho e i z size bytes ht hi hz hsize hby hzs hsz v n xs S hs hrow ⟨src, 0, none⟩ 1 c news hx (by rw [hl, Nat.one_mul]) h1 (by decide) h63 hbytes
    (h.of_eq (by ac_rfl)) h.news (fun g cap w' S' r1 r2 => hK g cap w' S' r1 ((r2.of_eq (show _ = (S' + F) + pt src (.cells news.toArray tt (0, 0)) from by ac_rfl)).left))
end

end Go.Proofs.Ythifeaigdobonaa
