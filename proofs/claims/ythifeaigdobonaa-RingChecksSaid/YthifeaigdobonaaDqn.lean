/- deque.New: the deque's machine is there, as the plain machine DM begins. -/
import Derived.Test.YthifeaigdobonaaNew
import Derived.Laws.EntriesVeiled
import Derived.Laws.MakeOwn
namespace Go.Proofs.Ythifeaigdobonaa
open Go.RowKit

theorem Holds.setBlock {W w : World} {S : Hp} {b : Nat} {o o' : Obj} (h : Holds W w (pt b o + S)) : Holds W (ChangeMaps.setBlock w b o') (pt b o' + S) := by
  have hlt := h.lt
  refine h.turn rfl rfl rfl (by simp [ChangeMaps.setBlock]) (by simp [ChangeMaps.setBlock, hlt]) (fun k _ hk => ?_)
  simp [ChangeMaps.setBlock, Ne.symm hk]

theorem deque_new_no (W w : World) (th room : Int) (S : Hp) (hno : ¬ okD th room) (h : Holds W w S) :
    Calls Try.prog 16 #[dqV th room] w fun e w' => e = .returned (.tuple #[.pointer none, .int .i64 210]) ∧ Holds W w' S := by
  unfold dqV
  have h1 := h.new w.heap.size rfl (.cells #[.int .i64 th, .int .i64 room] 23 (0, 0))
  have HN := Lib.hid hno
  clear h hno
  go_enter Try.func16, Try.ntmps16
  go_wp2_with fail
  refine (may_at W _ th room _ h1).mono ?_
  rintro e w1 ⟨rfl, h2⟩
  rw [decide_eq_false HN.out]
  go_wp2_with fail
  go_ret2
  exact ⟨rfl, h2.right⟩

def hub0 (room : Int) : Obj := hubO room 0 false 0 0

def mk1 (bv : Nat) : Value := .func (.func 51) #[] (capsV bv)
def mk2 (bv : Nat) : Value := .func (.func 52) #[] (capsV bv)
def mk3 (bv : Nat) : Value := .func (.func 53) #[] (capsV bv)

theorem kit_built (W w : World) (bv : Nat) (S : Hp) (h : Holds W w S) : ∃ wA wB wC,
    (Instr.mapUpdate 125 (.map (some w.heap.size)) (.int .i64 90) (.func (.func 51) #[] #[.pointer (some ⟨bv, 0, none⟩)])).run Try.prog (w.alloc (.map #[] 0)) = .ok () wA ∧
    (Instr.mapUpdate 125 (.map (some w.heap.size)) (.int .i64 91) (.func (.func 52) #[] #[.pointer (some ⟨bv, 0, none⟩)])).run Try.prog wA = .ok () wB ∧
    (Instr.mapUpdate 125 (.map (some w.heap.size)) (.int .i64 92) (.func (.func 53) #[] #[.pointer (some ⟨bv, 0, none⟩)])).run Try.prog wB = .ok () wC ∧
    Holds W wC (pt w.heap.size (kitO (ents bv)) + S) := by
  have h4 := h.new w.heap.size rfl (.map (entsOf [] 0).toArray 0)
  have i1 := run_insert_ints (P := Try.prog) 125 25 139 Try.underlying125 Try.underlying25 w.heap.size [] h4.at 90 (mk1 bv) rfl
  have h5 := h4.setBlock (o' := .map (entsOf ([] ++ [((90 : Int), mk1 bv)]) 0).toArray ([] ++ [((90 : Int), mk1 bv)]).length)
  have i2 := run_insert_ints (P := Try.prog) 125 25 139 Try.underlying125 Try.underlying25 w.heap.size _ h5.at 91 (mk2 bv) rfl
  have h6 := h5.setBlock (o' := .map (entsOf ([] ++ [((90 : Int), mk1 bv)] ++ [((91 : Int), mk2 bv)]) 0).toArray ([] ++ [((90 : Int), mk1 bv)] ++ [((91 : Int), mk2 bv)]).length)
  have i3 := run_insert_ints (P := Try.prog) 125 25 139 Try.underlying125 Try.underlying25 w.heap.size _ h6.at 92 (mk3 bv) rfl
  exact ⟨_, _, _, i1, i2, i3, h6.setBlock⟩

theorem made_u64 (n : Nat) : madeCells (Value.int .u64 0).cells (n * 1) = (u64s (List.replicate n 0)).toArray := by
  unfold madeCells u64s
  apply Array.ext
  · simp
  · intro i h1 h2
    simp [Value.cells, Nat.mod_one]

theorem make_words (n : Nat) (h : n ≤ 1000) (w : World) : (Instr.makeSlice 31 (.int .i64 (n : Int)) (.int .i64 (n : Int))).run Try.prog w =
    .ok (.slice (some ⟨w.heap.size, 0, none⟩) n n) (w.alloc (.cells (u64s (List.replicate n 0)).toArray 82 (0, 0))) := by
  obtain ⟨i0, hi, hz0, hz1, hz2⟩ := info_parts infoU64
  have := run_makeSlice (P := Try.prog) (w := w) 31 82 i0 (.int .u64 0) Try.underlying31 hi hz0 .i64 .i64 n n (by omega) (by omega) (by rw [hz1]; omega) (by rw [hz2]; omega) (by omega)
  rw [hz1, Int.toNat_natCast, made_u64] at this
  exact this

theorem sumT_none : ∀ n, sumT (List.replicate n none) = emp
  | 0 => rfl
  | n + 1 => by show emp + sumT (List.replicate n none) = emp; rw [sumT_none n, Hp.emp_add]

theorem PRel.start {bM bm kb bv bh n room : Nat} {Sm : Hp} (hok : okD n room) (hM : MachAt bM bm (.map (some kb)) (List.replicate (2 + room) 0) [] 0 [] (List.replicate n seat0) Sm) :
    PRel bM bm kb bv bh (DM.init n room) (Sm + (pt kb (kitO (ents bv)) + (pt bv (boxO bh) + pt bh (hub0 room)))) := by
  unfold okD at hok
  refine ⟨DM.Inv.start n room (by omega) (by omega) (by omega) (by omega), List.replicate n seat0, List.replicate n none, hub0 room, Sm, by simp [DM.init], by simp [DM.init], ?_, ?_, ?_, ?_⟩
  · intro t x hx
    have hx : (List.replicate n DM.noTh)[t]? = some x := hx
    have hlt : t < n := by have := (List.getElem?_eq_some_iff.1 hx).1; simpa using this
    have : x = DM.noTh := List.eq_of_mem_replicate (List.mem_of_getElem? hx)
    subst this
    exact ⟨seat0, none, by simp [hlt], by simp [hlt], .inl ⟨by show (-1 : Int) < 0; omega, rfl, rfl⟩⟩
  · show MachAt bM bm (.map (some kb)) ((List.replicate (2 + room) (0 : Int)).map un) [] 0 [] _ Sm
    rw [List.map_replicate, un_zero]
    exact hM
  · refine ⟨false, 0, 0, ?_, fun _ => rfl, fun h => absurd h (by show ¬ (0 : Int) ≤ -1; omega), fun h => absurd h (by show ¬ (0 : Int) ≤ -1; omega)⟩
    have e : wd (List.replicate (2 + room) (0 : Int)) 0 = 0 := by unfold wd; rw [List.getElem?_replicate]; split <;> rfl
    show hub0 room = hubO room (wd (List.replicate (2 + room) (0 : Int)) 0) false 0 0
    rw [e]; rfl
  · unfold restH
    rw [sumT_none, Hp.add_emp]

set_option maxHeartbeats 1000000 in
set_option maxRecDepth 100000 in
theorem deque_new (W w : World) (n room : Nat) (S : Hp) (hok : okD n room) (h : Holds W w S) :
    Calls Try.prog 16 #[dqV n room] w fun e w' => ∃ bM bm kb bv bh S', e = .returned (.tuple #[.pointer (some ⟨bM, 0, none⟩), .int .i64 0]) ∧ PRel bM bm kb bv bh (DM.init n room) S' ∧ Holds W w' (S' + S) := by
  unfold dqV
  have h1 := h.new w.heap.size rfl (.cells #[.int .i64 (n : Int), .int .i64 (room : Int)] 23 (0, 0))
  have HN := Lib.hid hok
  clear h hok
  go_enter Try.func16, Try.ntmps16
  go_wp2_with fail
  refine (may_at W _ n room _ h1).mono ?_
  rintro e w1 ⟨rfl, h2⟩
  rw [decide_eq_true HN.out]
  have h3 := (h2.new w1.heap.size rfl (hub0 room)).new (w1.heap.size + 1) (by simp) (boxO w1.heap.size)
  unfold hub0 hubO boxO at h3
  have c0 : w1.cell? ⟨w.heap.size, 0, none⟩ = some (.int .i64 (n : Int)) := by rw [h2.cell]; rfl
  have c1 : w1.cell? ⟨w.heap.size, 1, none⟩ = some (.int .i64 (room : Int)) := by rw [h2.cell]; rfl
  clear h1 h2
  go_upto_region 4 with fail
  generalize (w1.alloc (Obj.cells #[Value.int IntKind.i64 (room : Int), Value.int IntKind.i64 0, Value.bool false, Value.int IntKind.i64 0, Value.int IntKind.i64 0] 109)).alloc (Obj.cells #[Value.pointer (some { block := w1.heap.size, off := 0 })] 107) = w2 at h3 ⊢
  clear c0 c1
  obtain ⟨wA, wB, wC, i1, i2, i3, h7⟩ := kit_built W w2 (w1.heap.size + 1) _ h3
  have c0 : wC.cell? ⟨w.heap.size, 0, none⟩ = some (.int .i64 (n : Int)) := by
    rw [(h7.of_eq (show _ = pt w.heap.size (.cells #[.int .i64 (n : Int), .int .i64 (room : Int)] 23 (0, 0)) + (pt w2.heap.size (kitO (ents (w1.heap.size + 1))) + (pt (w1.heap.size + 1) (boxO w1.heap.size) + (pt w1.heap.size (hub0 room) + S))) from by unfold boxO hub0 hubO; ac_rfl)).cell]; rfl
  have c1 : wC.cell? ⟨w.heap.size, 1, none⟩ = some (.int .i64 (room : Int)) := by
    rw [(h7.of_eq (show _ = pt w.heap.size (.cells #[.int .i64 (n : Int), .int .i64 (room : Int)] 23 (0, 0)) + (pt w2.heap.size (kitO (ents (w1.heap.size + 1))) + (pt (w1.heap.size + 1) (boxO w1.heap.size) + (pt w1.heap.size (hub0 room) + S))) from by unfold boxO hub0 hubO; ac_rfl)).cell]; rfl
  have H7 := Lib.hid h7
  have hlt := h7.lt
  clear h3 h7
  have i0 : (Instr.makeMap 125 none).run Try.prog w2 = .ok (.map (some w2.heap.size)) (w2.alloc (.map #[] 0)) := rfl
  go_upto_region 5 with fail
  have hw : IntKind.i64.wrap (2 + (room : Int)) = 2 + (room : Int) := by have := HN.out; unfold okD at this; exact IntWalk.i64_in _ (by omega)
  have hmk : ∀ w, (Instr.makeSlice 31 (.int .i64 (2 + (room : Int))) (.int .i64 (2 + (room : Int)))).run Try.prog w = .ok (.slice (some ⟨w.heap.size, 0, none⟩) (2 + room) (2 + room)) (w.alloc (.cells (u64s (List.replicate (2 + room) 0)).toArray 82 (0, 0))) :=
    make_words (2 + room) (by have := HN.out; unfold okD at this; omega)
  clear i0 i1 i2 i3
  have hrow : RowAt 82 1 (.slice (some ⟨wC.heap.size, 0, none⟩) (2 + room) (2 + room)) (List.replicate (2 + room) (0 : Int)).length (u64s (List.replicate (2 + room) 0)) (pt wC.heap.size (.cells (u64s (List.replicate (2 + room) 0)).toArray 82 (0, 0))) := by
    have := RowAt.mk 82 1 wC.heap.size (2 + room) (2 + room) (u64s (List.replicate (2 + room) 0)) [] (by simp [u64s]) (Nat.le_refl _) (by have := HN.out; unfold okD at this; unfold maxLen; omega) (by simp [u64s])
    rw [List.append_nil] at this
    rw [List.length_replicate]; exact this
  have HR := Lib.hid hrow
  have H8 := Lib.hid (H7.out.new wC.heap.size rfl (.cells (u64s (List.replicate (2 + room) 0)).toArray 82 (0, 0))).drew
  clear hrow
  go_region_held3 (fun w' => w'.cell? ⟨w.heap.size, 0, none⟩ = some (.int .i64 (n : Int)) ∧ w'.cell? ⟨w.heap.size, 1, none⟩ = some (.int .i64 (room : Int))) (go_keep)
    ((go_at_call 54; refine (machine_new W _ _ _ n (by have := HN.out; unfold okD at this; omega) (by have := HN.out; unfold okD at this; omega) (List.replicate (2 + room) 0) _ w2.heap.size (by have := HN.out; unfold okD at this; rw [List.length_replicate]; omega) HR.out H8.out).mono ?_; rintro e w3 ⟨bM, bm, S', rfl, hM, h9⟩; have k0 : w3.cell? ⟨w.heap.size, 0, none⟩ = some (.int .i64 (n : Int)) := by {rw [(h9.of_eq (show _ = pt w.heap.size (.cells #[.int .i64 (n : Int), .int .i64 (room : Int)] 23 (0, 0)) + (S' + (pt w2.heap.size (kitO (ents (w1.heap.size + 1))) + (pt (w1.heap.size + 1) (boxO w1.heap.size) + (pt w1.heap.size (hub0 room) + S)))) from by unfold boxO hub0 hubO; ac_rfl)).cell]; rfl}; have k1 : w3.cell? ⟨w.heap.size, 1, none⟩ = some (.int .i64 (room : Int)) := by {rw [(h9.of_eq (show _ = pt w.heap.size (.cells #[.int .i64 (n : Int), .int .i64 (room : Int)] 23 (0, 0)) + (S' + (pt w2.heap.size (kitO (ents (w1.heap.size + 1))) + (pt (w1.heap.size + 1) (boxO w1.heap.size) + (pt w1.heap.size (hub0 room) + S)))) from by unfold boxO hub0 hubO; ac_rfl)).cell]; rfl})
  )
  go_wp2_with fail
  go_ret2
  refine ⟨bM, bm, w2.heap.size, w1.heap.size + 1, w1.heap.size, _, rfl, PRel.start HN.out hM, ?_⟩
  exact (h9.of_eq (show _ = S' + (pt w2.heap.size (kitO (ents (w1.heap.size + 1))) + (pt (w1.heap.size + 1) (boxO w1.heap.size) + pt w1.heap.size (hub0 room))) + S + pt w.heap.size (.cells #[.int .i64 (n : Int), .int .i64 (room : Int)] 23 (0, 0)) from by unfold boxO hub0 hubO; ac_rfl)).left

end Go.Proofs.Ythifeaigdobonaa
