/- The ring: the program's machine against the plain machine RM; a move keeps it. The ring: what the heap holds of the program's machine; the makers; a move keeps it. -/
import Derived.Test.YthifeaigdobonaaRga
import Derived.Test.YthifeaigdobonaaRma
import Derived.Test.YthifeaigdobonaaPrl
namespace Go.Proofs.Ythifeaigdobonaa
open Go.RowKit

theorem ring_does (W : World) (T : TypeId) (bt bh : Nat) (th now : Int) (ws ws2 : List Int) (log log2 : List Acc) (task0 task2 hub : Obj) (p : Option Int) (a : Option (Int × Int)) (over ready : Bool)
    (m1 : ∀ w, (method 352 T (.pointer (some ⟨bt, 0, none⟩)) "Ready").run Try.prog w = .ok (180, .pointer (some ⟨bt, 0, none⟩)) w)
    (m2 : ∀ w, (method 352 T (.pointer (some ⟨bt, 0, none⟩)) "Step").run Try.prog w = .ok (181, .pointer (some ⟨bt, 0, none⟩)) w)
    (hR : ∀ (q : EK) (w : World) (S F : Hp) (cs ss : Array Value), q.bt = bt → q.bh = bh → Env q false ws log task0 hub cs ss S → Holds W w (S + F) →
      Calls Try.prog 180 #[.pointer (some ⟨q.bt, 0, none⟩), .pointer (some ⟨q.k.bd, 0, none⟩)] w (EPost W q false ws log task0 hub cs ss F (.bool false)))
    (hS : ∀ (q : EK) (w : World) (S F : Hp) (cs ss : Array Value), q.bt = bt → q.bh = bh → q.k.th = th → q.k.nw = now → Env q false ws log task0 hub cs ss S → Holds W w (S + F) →
      Calls Try.prog 181 #[.pointer (some ⟨q.bt, 0, none⟩), .pointer (some ⟨q.k.bd, 0, none⟩)] w (EPost W q true ws2 log2 task2 hub (setPt cs q.oc p) (setAn ss q.os a) F (.bool over))) :
    TaskDoes W T bt th now (ws.map un) log (pt bt task0 + pt bh hub) (pt bt task0 + pt bh hub) (ws2.map un) log2 (pt bt task2 + pt bh hub) p a over ready := by
  refine ⟨fun _ => rfl, 180, 181, m1, m2, fun args w => by kernel_rfl, fun args w => by kernel_rfl, fun _ q w S F cs ss h1 h2 hG h => ?_, fun q w S F cs ss h1 h2 hG h => ?_⟩
  · obtain ⟨hc, hE⟩ := Env.of_gen hG
    exact (hR { q with bt := bt, bh := bh } w S F cs ss rfl rfl hE h).mono fun e w' hp => GPost.of_env hc hp
  · obtain ⟨hc, hE⟩ := Env.of_gen hG
    exact (hS { q with bt := bt, bh := bh } w S F cs ss rfl rfl h1 h2 hE h).mono fun e w' hp => GPost.of_env (by cases p <;> simpa [setPt] using hc) hp

def pickOf (c : ACall) : Bool := decide (c.op = 101)
def argOf (c : ACall) : Int := if c.op = 101 then 0 else c.arg
theorem bs_of (c : ACall) : bs (pickOf c) = RM.base c := by unfold bs pickOf RM.base; by_cases h : c.op = 101 <;> simp [h]
theorem noK_of (c : ACall) : noK (pickOf c) = if c.op = 101 then 3 else 4 := by unfold noK pickOf; by_cases h : c.op = 101 <;> simp [h]
def rtask (cells : Int) (x : RTh) (c : ACall) : Obj := rcO cells (pickOf c) (argOf c) x.st x.n x.got

/-- A step of the task against the plain machine's. -/
theorem ring_out (W : World) (m : RM) (hi : m.Inv) (t : Nat) (x : RTh) (c : ACall) (hp : RM.ThP m.moves x c) (th : Int) :
    ∃ (o2 : Obj) (p : Option Int) (a : Option (Int × Int)) (over : Bool),
      (∀ (q : EK) (w : World) (S F : Hp) (cs ss : Array Value), q.k.th = (t : Int) → q.k.nw = m.moves → Env q false m.words m.trace (rtask m.cells x c) (rbO th m.cells) cs ss S → Holds W w (S + F) →
        Calls Try.prog 181 #[.pointer (some ⟨q.bt, 0, none⟩), .pointer (some ⟨q.k.bd, 0, none⟩)] w (EPost W q true (m.eff t x c).words (m.trace ++ [(m.eff t x c).acc]) o2 (rbO th m.cells) (setPt cs q.oc p) (setAn ss q.os a) F (.bool over))) ∧
      (∀ s : ASeat, s.ak = 1 → s.av = 0 → callAfter over m.moves (anOf a s) (ptOf p c) = (m.eff t x c).c) ∧ (over = true → (m.eff t x c).x.call < 0) ∧
      (over = false → (m.eff t x c).x.call = x.call ∧ a = none ∧ o2 = rtask m.cells (m.eff t x c).x c) := by
  obtain ⟨o, s0, s1, n0, n1, g⟩ := hp
  have k := hi.cells
  have hm0 := hi.mv
  have hnt := hi.ntrace
  have hlen := hi.len
  have h64 := hi.w64
  have hb : m.trace.length < 1048576 := by omega
  have hn1 : x.n ≤ 100000 := by omega
  have eb := bs_of c
  have self : ptOf none c = c := rfl
  have selfa : ∀ s : ASeat, anOf none s = s := fun _ => rfl
  unfold RM.eff rtask
  by_cases q0 : x.st = 0
  · simp only [if_pos q0]
    refine ⟨_, none, none, false, fun q w S F cs ss h1 h2 hE hh => ?_, fun s _ _ => rfl, fun e => (by cases e), fun _ => ⟨trivial, rfl, rfl⟩⟩
    rw [q0] at hE
    have := r_step0 W w q m.words m.trace m.cells th (argOf c) x.n x.got (pickOf c) cs ss S F k.1 k.2 n0 hn1 hlen h64 hb hE hh
    rw [eb, h1, h2] at this
    exact this
  simp only [if_neg q0]
  by_cases q1 : x.st = 1
  · simp only [if_pos q1]
    by_cases q2 : wd m.words (RM.addr m.cells x).toNat = x.n + RM.base c
    · simp only [if_pos q2]
      refine ⟨_, none, none, false, fun q w S F cs ss h1 h2 hE hh => ?_, fun s _ _ => rfl, fun e => (by cases e), fun _ => ⟨trivial, rfl, rfl⟩⟩
      rw [q1] at hE
      have := r_step1_go W w q m.words m.trace m.cells th (argOf c) x.n x.got (pickOf c) cs ss S F k.1 k.2 n0 hn1 hlen h64 hb (by rw [eb]; exact q2) hE hh
      rw [h1, h2] at this
      exact this
    simp only [if_neg q2]
    by_cases q3 : x.n + RM.base c < wd m.words (RM.addr m.cells x).toNat
    · simp only [if_pos q3]
      refine ⟨_, none, none, false, fun q w S F cs ss h1 h2 hE hh => ?_, fun s _ _ => rfl, fun e => (by cases e), fun _ => ⟨trivial, rfl, rfl⟩⟩
      rw [q1] at hE
      have := r_step1_late W w q m.words m.trace m.cells th (argOf c) x.n x.got (pickOf c) cs ss S F k.1 k.2 n0 hn1 hlen h64 hb (by rw [eb]; exact q3) hE hh
      rw [h1, h2] at this
      exact this
    · simp only [if_neg q3]
      refine ⟨rcO m.cells (pickOf c) (argOf c) 1 x.n x.got, some m.moves, some (noK (pickOf c), 0), true, fun q w S F cs ss h1 h2 hE hh => ?_, fun s _ _ => by rw [noK_of]; rfl, fun _ => by simp, fun e => (by cases e)⟩
      rw [q1] at hE
      have := r_step1_no W w q m.words m.trace m.cells th (argOf c) x.n x.got (pickOf c) cs ss S F k.1 k.2 n0 hn1 hlen h64 hb (by rw [eb]; show wd m.words (RM.addr m.cells x).toNat < _; omega) hE hh
      rw [h1, h2] at this
      exact this
  simp only [if_neg q1]
  by_cases q2 : x.st = 2
  · simp only [if_pos q2]
    by_cases q3 : wd m.words (RM.base c).toNat = x.n
    · simp only [if_pos q3]
      refine ⟨_, some m.moves, none, false, fun q w S F cs ss h1 h2 hE hh => ?_, fun s _ _ => rfl, fun e => (by cases e), fun _ => ⟨trivial, rfl, rfl⟩⟩
      rw [q2] at hE
      have := r_step2_yes W w q m.words m.trace m.cells th (argOf c) x.n x.got (pickOf c) cs ss S F k.1 k.2 n0 hn1 hlen h64 hb (by rw [eb]; exact q3) hE hh
      rw [eb, h1, h2] at this
      exact this
    · simp only [if_neg q3]
      refine ⟨_, none, none, false, fun q w S F cs ss h1 h2 hE hh => ?_, fun s _ _ => rfl, fun e => (by cases e), fun _ => ⟨trivial, rfl, rfl⟩⟩
      rw [q2] at hE
      have := r_step2_no W w q m.words m.trace m.cells th (argOf c) x.n x.got (pickOf c) cs ss S F k.1 k.2 n0 hn1 hlen h64 hb (by rw [eb]; exact q3) hE hh
      rw [eb, h1, h2] at this
      exact this
  simp only [if_neg q2]
  by_cases q3 : x.st = 3
  · simp only [if_pos q3]
    by_cases q4 : c.op = 101
    · simp only [if_pos q4]
      have ep : pickOf c = true := decide_eq_true q4
      refine ⟨_, none, none, false, fun q w S F cs ss h1 h2 hE hh => ?_, fun s _ _ => rfl, fun e => (by cases e), fun _ => ⟨trivial, rfl, rfl⟩⟩
      rw [q3, ep] at hE
      have := r_step3_pick W w q m.words m.trace m.cells th (argOf c) x.n x.got cs ss S F k.1 k.2 n0 hn1 hlen h64 hb hE hh
      rw [h1, h2] at this
      rw [ep]
      exact this
    · simp only [if_neg q4]
      have ep : pickOf c = false := decide_eq_false q4
      have ea : argOf c = c.arg := by unfold argOf; rw [if_neg q4]
      refine ⟨_, none, none, false, fun q w S F cs ss h1 h2 hE hh => ?_, fun s _ _ => rfl, fun e => (by cases e), fun _ => ⟨trivial, rfl, rfl⟩⟩
      rw [q3, ep, ea] at hE
      have := r_step3_put W w q m.words m.trace m.cells th c.arg x.n x.got cs ss S F k.1 k.2 n0 hn1 hlen h64 hb hE hh
      rw [h1, h2] at this
      rw [ep, ea]
      exact this
  simp only [if_neg q3]
  have q3' : x.st = 4 := by omega
  by_cases q4 : c.op = 101
  · simp only [if_pos q4]
    have ep : pickOf c = true := decide_eq_true q4
    refine ⟨rcO m.cells true (argOf c) 4 x.n x.got, none, some (2, x.got), true, fun q w S F cs ss h1 h2 hE hh => ?_, fun s _ _ => rfl, fun _ => by simp, fun e => (by cases e)⟩
    rw [q3', ep] at hE
    have := r_step4_pick W w q m.words m.trace m.cells th (argOf c) x.n x.got cs ss S F k.1 k.2 n0 hn1 hlen h64 hb hE hh
    rw [h1, h2] at this
    exact this
  · simp only [if_neg q4]
    have ep : pickOf c = false := decide_eq_false q4
    refine ⟨rcO m.cells false (argOf c) 4 x.n x.got, none, none, true, fun q w S F cs ss h1 h2 hE hh => ?_, fun s k1 k2 => ?_, fun _ => by simp, fun e => (by cases e)⟩
    · rw [q3', ep] at hE
      have := r_step4_put W w q m.words m.trace m.cells th (argOf c) x.n x.got cs ss S F k.1 k.2 n0 hn1 hlen h64 hb hE hh
      rw [h1, h2] at this
      exact this
    · show ({ c with stop := m.moves, ak := s.ak, av := s.av } : ACall) = _
      rw [k1, k2]

end Go.Proofs.Ythifeaigdobonaa

namespace Go.Proofs.Ythifeaigdobonaa
open Go.RowKit RM

section
variable (W w : World) (bv : Nat) (op arg data th cells : Int) (S : Hp) (t : Nat)

theorem make_put (h : Holds W w (pt bv (rbO th cells) + S)) :
    Calls Try.prog 73 (#[.int .i64 (t : Int), mvV t op arg data] ++ capsV bv) w fun e w' =>
      ∃ bt, e = .returned (.iface 158 (.pointer (some ⟨bt, 0, none⟩))) ∧ Holds W w' (pt bt (rcO cells false arg 0 0 0) + (pt bv (rbO th cells) + S)) := by
  have c1 : w.cell? ⟨bv, 1, none⟩ = some (.int .i64 cells) := by unfold rbO at h; rw [h.cell]; rfl
  have hlt := h.lt
  unfold capsV mvV
  go_enter Try.func73, Try.ntmps73
  go_wp2_with fail
  go_ret
  exact ⟨_, rfl, ((h.alloc _).right.new _ (by simp) _)⟩

theorem make_pick (h : Holds W w (pt bv (rbO th cells) + S)) :
    Calls Try.prog 74 (#[.int .i64 (t : Int), mvV t op arg data] ++ capsV bv) w fun e w' =>
      ∃ bt, e = .returned (.iface 158 (.pointer (some ⟨bt, 0, none⟩))) ∧ Holds W w' (pt bt (rcO cells true 0 0 0 0) + (pt bv (rbO th cells) + S)) := by
  have c1 : w.cell? ⟨bv, 1, none⟩ = some (.int .i64 cells) := by unfold rbO at h; rw [h.cell]; rfl
  have hlt := h.lt
  unfold capsV mvV
  go_enter Try.func74, Try.ntmps74
  go_wp2_with fail
  go_ret
  exact ⟨_, rfl, ((h.alloc _).right.new _ (by simp) _)⟩
end

/-- A seat, and the block of its task, against the plain machine's thread. -/
def RSeatOK (m : RM) (x : RTh) (s : ASeat) (b : Option (Nat × Obj)) : Prop :=
  (x.call < 0 ∧ s.task = .nilIface ∧ b = none) ∨
  (0 ≤ x.call ∧ s.ak = 1 ∧ s.av = 0 ∧ ∃ c bt, m.calls[x.call.toNat]? = some c ∧ s.last = x.call ∧ s.task = .iface 158 (.pointer (some ⟨bt, 0, none⟩)) ∧ b = some (bt, rtask m.cells x c))

def rents (bv : Nat) : List (Int × Value) := [(100, .func (.func 73) #[] (capsV bv)), (101, .func (.func 74) #[] (capsV bv))]

/-- All but the machine itself. -/
def rrest (bv : Nat) (n cells : Int) (tb : List (Option (Nat × Obj))) : Hp := pt bv (rbO n cells) + sumT tb

def RPRel (bM bm kb bv : Nat) (m : RM) (S : Hp) : Prop :=
  m.Inv ∧ ∃ seats tb Sm, seats.length = m.all.length ∧ tb.length = m.all.length ∧
    (∀ (t : Nat) (x : RTh), m.all[t]? = some x → ∃ (s : ASeat) (b : Option (Nat × Obj)), seats[t]? = some s ∧ tb[t]? = some b ∧ RSeatOK m x s b) ∧
    MachAt bM bm (.map (some kb)) (m.words.map un) m.trace m.moves m.calls seats Sm ∧ S = Sm + (pt kb (kitO (rents bv)) + rrest bv m.all.length m.cells tb)

/-- The other threads' seats through a step of thread t's call or a begin. -/
theorem RSeatOK.kept {m m' : RM} {y : RTh} {s : ASeat} {b : Option (Nat × Obj)} (h : RSeatOK m y s b) (hcl : m'.cells = m.cells)
    (hc : ∀ (i : Nat) (d : ACall), m.calls[i]? = some d → ∃ d', m'.calls[i]? = some d' ∧ d'.op = d.op ∧ d'.arg = d.arg) : RSeatOK m' y s b := by
  rcases h with h | ⟨h1, h2, h3, c, bt, h4, h5, h6, h7⟩
  · exact .inl h
  · obtain ⟨d, hd, ho, ha⟩ := hc _ c h4
    refine .inr ⟨h1, h2, h3, d, bt, hd, h5, h6, ?_⟩
    rw [h7, hcl]
    unfold rtask pickOf argOf
    rw [ho, ha]

def RgPost (W : World) (bM bm kb bv : Nat) (m' : RM) (r : Bool) (F : Hp) (e : Ending) (w' : World) : Prop :=
  e = .returned (.bool r) ∧ ∃ S', RPRel bM bm kb bv m' S' ∧ Holds W w' (S' + F)

theorem rmove_lt {m : RM} {v : DM.Mv} (h : m.moves < 65536) : m.move v = ({ (m.move0 v).1 with moves := m.moves + 1 }, (m.move0 v).2) := by
  unfold RM.move; rw [if_neg (by omega)]

section
variable (W w : World) (bM bm kb bv : Nat) {m : RM} {seats : List ASeat} {tb : List (Option (Nat × Obj))} {Sm : Hp} (F : Hp)

/-- A move that steps a call. -/
theorem rpr_step (hi : m.Inv) (hmv : m.moves < 65536) (h1 : seats.length = m.all.length) (h2 : tb.length = m.all.length)
    (h3 : ∀ (t : Nat) (x : RTh), m.all[t]? = some x → ∃ (s : ASeat) (b : Option (Nat × Obj)), seats[t]? = some s ∧ tb[t]? = some b ∧ RSeatOK m x s b)
    (h4 : MachAt bM bm (.map (some kb)) (m.words.map un) m.trace m.moves m.calls seats Sm) (t : Nat) (x : RTh) (hx : m.all[t]? = some x) (hb : 0 ≤ x.call) (arg data : Int)
    (h : Holds W w (Sm + (pt kb (kitO (rents bv)) + rrest bv m.all.length m.cells tb) + F)) :
    Calls Try.prog 19 (moveArgs bM t 0 arg data) w (RgPost W bM bm kb bv { m.step t with moves := m.moves + 1 } true F) := by
  obtain ⟨s, b, e1, e2, hs⟩ := h3 t x hx
  rcases hs with ⟨hs, _⟩ | ⟨_, k1, k2, c, bt, hc, hlast, htask, rfl⟩
  · omega
  obtain ⟨c0, hc0, hp⟩ := hi.ths t x hx hb
  rw [hc] at hc0; injection hc0 with hc0; subst hc0
  obtain ⟨o2, p, a, over, hdo, hca, hov, hgo⟩ := ring_out W m hi t x c hp m.all.length
  have hinv := hi.stepped hmv hx hb
  have hop := eff_ok hi t hc hp
  have hstep : m.step t = m.put t x.call.toNat (m.eff t x c) := by unfold RM.step; rw [th_of hx, call_of hc]
  rw [hstep] at hinv ⊢
  have hlt : t < m.all.length := (List.getElem?_eq_some_iff.1 hx).1
  have hn := hi.nth
  have hnc := hi.ncalls
  have hm0 := hi.mv
  have hdoes := ring_does W 158 bt bv t m.moves m.words (m.eff t x c).words m.trace (m.trace ++ [(m.eff t x c).acc]) (rtask m.cells x c) o2 (rbO m.all.length m.cells) p a over s.ready (fun w => by kernel_rfl) (fun w => by kernel_rfl)
    (fun q w S F cs ss _ _ hE hh => r_ready W w q m.words m.trace m.cells m.all.length (argOf c) x.st x.n x.got (pickOf c) cs ss S F hE hh) (fun q w S F cs ss _ _ h1 h2 hE hh => hdo q w S F cs ss h1 h2 hE hh)
  refine (move_step W w bM bm (.map (some kb)) (m.words.map un) m.trace m.moves m.calls seats Sm (pt bt (rtask m.cells x c) + pt bv (rbO m.all.length m.cells)) (pt kb (kitO (rents bv)) + sumT (tb.set t none) + F) arg data t s c 158 bt x.call.toNat e1 hc htask (by omega)
    (by omega) (by omega) (by omega) hmv hm0.1 _ _ _ _ p a over hdoes h4 (h.of_eq ?_)).mono ?_
  · unfold rrest; rw [sumT_get e2]; unfold oH; ac_rfl
  rintro e w' ⟨rfl, S', hM, h'⟩
  rw [hca s k1 k2] at hM
  generalize m.eff t x c = ef at *
  obtain ⟨_, _, _, p1, p2, p3⟩ := hop
  -- the other seats
  have keep : ∀ (y : RTh) (s2 : ASeat) (b2 : Option (Nat × Obj)), RSeatOK m y s2 b2 → RSeatOK { m.put t x.call.toNat ef with moves := m.moves + 1 } y s2 b2 := by
    intro y s2 b2 hk
    refine hk.kept rfl (fun i d hd => ?_)
    show ∃ d', (m.calls.set x.call.toNat ef.c)[i]? = some d' ∧ _
    by_cases e : x.call.toNat = i
    · subst e
      rw [hc] at hd; injection hd with hd; subst hd
      exact ⟨ef.c, get_set hc _, p1, p2⟩
    · exact ⟨d, by rw [List.getElem?_set_ne e]; exact hd, rfl, rfl⟩
  have hlen : (m.all.set t ef.x).length = m.all.length := by simp
  cases over with
  | true =>
    refine ⟨rfl, S' + (pt kb (kitO (rents bv)) + rrest bv m.all.length m.cells (tb.set t none)), ⟨hinv, seats.set t (seatAfter true (anOf a s)), tb.set t none, S', ?_, ?_, ?_, hM, ?_⟩, ?_⟩
    · show _ = (m.all.set t ef.x).length; rw [hlen]; simpa using h1
    · show _ = (m.all.set t ef.x).length; rw [hlen]; simpa using h2
    · intro t2 y hy
      have hy : (m.all.set t ef.x)[t2]? = some y := hy
      by_cases e : t = t2
      · subst e
        have : y = ef.x := by simp [hlt] at hy; exact hy.symm
        subst this
        exact ⟨_, none, get_set e1 _, get_set e2 _, .inl ⟨hov rfl, rfl, rfl⟩⟩
      · rw [List.getElem?_set_ne e] at hy
        obtain ⟨s2, b2, f1, f2, f3⟩ := h3 t2 y hy
        exact ⟨s2, b2, by rw [List.getElem?_set_ne e]; exact f1, by rw [List.getElem?_set_ne e]; exact f2, keep y s2 b2 f3⟩
    · show _ = S' + (pt kb (kitO (rents bv)) + rrest bv (m.all.set t ef.x).length m.cells (tb.set t none)); rw [hlen]
    · exact (h'.of_eq (show _ = S' + (pt kb (kitO (rents bv)) + rrest bv m.all.length m.cells (tb.set t none)) + F + pt bt o2 from by unfold rrest; ac_rfl)).left
  | false =>
    obtain ⟨g1, g2, g3⟩ := hgo rfl
    subst g2
    refine ⟨rfl, S' + (pt kb (kitO (rents bv)) + rrest bv m.all.length m.cells (tb.set t (some (bt, o2)))), ⟨hinv, seats.set t (seatAfter false (anOf none s)), tb.set t (some (bt, o2)), S', ?_, ?_, ?_, hM, ?_⟩, ?_⟩
    · show _ = (m.all.set t ef.x).length; rw [hlen]; simpa using h1
    · show _ = (m.all.set t ef.x).length; rw [hlen]; simpa using h2
    · intro t2 y hy
      have hy : (m.all.set t ef.x)[t2]? = some y := hy
      by_cases e : t = t2
      · subst e
        have : y = ef.x := by simp [hlt] at hy; exact hy.symm
        subst this
        refine ⟨_, _, get_set e1 _, get_set e2 _, .inr ⟨by omega, k1, k2, ef.c, bt, ?_, by rw [g1]; exact hlast, htask, ?_⟩⟩
        · show (m.calls.set x.call.toNat ef.c)[ef.x.call.toNat]? = _; rw [g1]; exact get_set hc _
        · rw [g3]; unfold rtask pickOf argOf; rw [p1, p2]; rfl
      · rw [List.getElem?_set_ne e] at hy
        obtain ⟨s2, b2, f1, f2, f3⟩ := h3 t2 y hy
        exact ⟨s2, b2, by rw [List.getElem?_set_ne e]; exact f1, by rw [List.getElem?_set_ne e]; exact f2, keep y s2 b2 f3⟩
    · show _ = S' + (pt kb (kitO (rents bv)) + rrest bv (m.all.set t ef.x).length m.cells (tb.set t (some (bt, o2)))); rw [hlen]
    · refine h'.of_eq ?_
      unfold rrest
      rw [sumT_set tb t (some (bt, o2)) (by omega)]
      unfold oH
      ac_rfl

/-- A move that begins a call. -/
theorem rpr_begin (hi : m.Inv) (hmv : m.moves < 65536) (h1 : seats.length = m.all.length) (h2 : tb.length = m.all.length)
    (h3 : ∀ (t : Nat) (x : RTh), m.all[t]? = some x → ∃ (s : ASeat) (b : Option (Nat × Obj)), seats[t]? = some s ∧ tb[t]? = some b ∧ RSeatOK m x s b)
    (h4 : MachAt bM bm (.map (some kb)) (m.words.map un) m.trace m.moves m.calls seats Sm) (t : Nat) (x : RTh) (hx : m.all[t]? = some x) (hb : x.call < 0) (op arg data : Int) (harg : I64 arg)
    (hop : op = 100 ∨ op = 101) (f : FuncId) (hlook : lookOf (rents bv) op .nilFunc = .func (.func f) #[] (capsV bv)) (hcf : ∀ args w, (callFunc f args).run Try.prog w = .ok (.enter f args) w)
    (hmk : ∀ (w : World) (S : Hp), Holds W w (pt bv (rbO m.all.length m.cells) + S) → Calls Try.prog f (#[.int .i64 (t : Int), mvV t op arg data] ++ capsV bv) w fun e w' =>
      ∃ bt, e = .returned (.iface 158 (.pointer (some ⟨bt, 0, none⟩))) ∧ Holds W w' (pt bt (rtask m.cells ⟨m.calls.length, 0, 0, 0⟩ (callNew t op arg data m.moves)) + (pt bv (rbO m.all.length m.cells) + S)))
    (h : Holds W w (Sm + (pt kb (kitO (rents bv)) + rrest bv m.all.length m.cells tb) + F)) :
    Calls Try.prog 19 (moveArgs bM t op arg data) w (RgPost W bM bm kb bv { m.begins t op arg data with moves := m.moves + 1 } true F) := by
  obtain ⟨s, b, e1, e2, hs⟩ := h3 t x hx
  rcases hs with ⟨_, htask, rfl⟩ | ⟨hs, _⟩
  rotate_left
  · omega
  have hinv := hi.begun hmv hx harg hop (data := data)
  have hlt : t < m.all.length := (List.getElem?_eq_some_iff.1 hx).1
  have hn := hi.nth
  have hnc := hi.ncalls
  have hm0 := hi.mv
  refine (move_begin W w bM bm kb (m.words.map un) m.trace m.moves m.calls seats Sm (rrest bv m.all.length m.cells tb) F op arg data t s (rents bv) e1 htask (by omega) (by omega) 158 (fun bt => pt bt (rtask m.cells ⟨m.calls.length, 0, 0, 0⟩ (callNew t op arg data m.moves)) + rrest bv m.all.length m.cells tb) f (capsV bv) hlook hcf ?_
    (by omega) (by omega) hmv hm0.1 h4 (h.of_eq (by ac_rfl))).mono ?_
  · intro w2 S1 h2'
    refine (hmk w2 (S1 + (pt kb (kitO (rents bv)) + (sumT tb + F))) (h2'.of_eq (by unfold rrest; ac_rfl))).mono ?_
    rintro e w' ⟨bt, rfl, h3'⟩
    exact ⟨bt, rfl, h3'.of_eq (by unfold rrest; ac_rfl)⟩
  rintro e w' ⟨bt, rfl, S', hM, h'⟩
  have keep : ∀ (y : RTh) (s2 : ASeat) (b2 : Option (Nat × Obj)), RSeatOK m y s2 b2 → RSeatOK { m.begins t op arg data with moves := m.moves + 1 } y s2 b2 := by
    intro y s2 b2 hk
    refine hk.kept rfl (fun i d hd => ⟨d, ?_, rfl, rfl⟩)
    show (m.calls ++ [_])[i]? = some d
    rw [List.getElem?_append_left (List.getElem?_eq_some_iff.1 hd).1]; exact hd
  have hlen : (m.all.set t ⟨m.calls.length, 0, 0, 0⟩).length = m.all.length := by simp
  refine ⟨rfl, S' + (pt kb (kitO (rents bv)) + rrest bv m.all.length m.cells (tb.set t (some (bt, rtask m.cells ⟨m.calls.length, 0, 0, 0⟩ (callNew t op arg data m.moves))))), ⟨hinv, seats.set t (seatNew (.iface 158 (.pointer (some ⟨bt, 0, none⟩))) m.calls.length), tb.set t (some (bt, rtask m.cells ⟨m.calls.length, 0, 0, 0⟩ (callNew t op arg data m.moves))), S', ?_, ?_, ?_, hM, ?_⟩, ?_⟩
  · show _ = (m.all.set t _).length; simpa using h1
  · show _ = (m.all.set t _).length; simpa using h2
  · intro t2 y hy
    have hy : (m.all.set t ⟨m.calls.length, 0, 0, 0⟩)[t2]? = some y := hy
    by_cases e : t = t2
    · subst e
      have : y = ⟨m.calls.length, 0, 0, 0⟩ := by simp [hlt] at hy; exact hy.symm
      subst this
      refine ⟨_, _, get_set e1 _, get_set e2 _, .inr ⟨by show 0 ≤ (m.calls.length : Int); omega, rfl, rfl, callNew t op arg data m.moves, bt, ?_, rfl, rfl, rfl⟩⟩
      show (m.calls ++ [_])[((m.calls.length : Int)).toNat]? = _
      simp
    · rw [List.getElem?_set_ne e] at hy
      obtain ⟨s2, b2, f1, f2, f3⟩ := h3 t2 y hy
      exact ⟨s2, b2, by rw [List.getElem?_set_ne e]; exact f1, by rw [List.getElem?_set_ne e]; exact f2, keep y s2 b2 f3⟩
  · show _ = S' + (pt kb (kitO (rents bv)) + rrest bv (m.all.set t ⟨m.calls.length, 0, 0, 0⟩).length m.cells _); rw [hlen]
  · refine h'.of_eq ?_
    unfold rrest
    rw [sumT_set tb t (some (bt, _)) (by omega), sumT_get e2]
    unfold oH
    rw [Hp.emp_add]
    ac_rfl

/-- A move, whichever it is. -/
theorem ring_move (v : DM.Mv) (harg : I64 v.arg) {S : Hp} (hrel : RPRel bM bm kb bv m S) (h : Holds W w (S + F)) :
    Calls Try.prog 19 (moveArgs bM v.thread v.op v.arg v.data) w (RgPost W bM bm kb bv (m.move v).1 (m.move v).2 F) := by
  obtain ⟨hi, seats, tb, Sm, h1, h2, h3, h4, rfl⟩ := hrel
  have hn := hi.nth
  have hm0 := hi.mv
  have h' := h.of_eq (show _ = Sm + (pt kb (kitO (rents bv)) + rrest bv m.all.length m.cells tb + F) from by ac_rfl)
  have h'' := h.of_eq (show _ = Sm + (pt kb (kitO (rents bv)) + (rrest bv m.all.length m.cells tb + F)) from by ac_rfl)
  by_cases q0 : 65536 ≤ m.moves
  · have e0 : m.move v = (m, false) := by unfold RM.move; rw [if_pos q0]
    rw [e0]
    refine (move_over W w bM bm (.map (some kb)) (m.words.map un) m.trace m.moves m.calls seats Sm (pt kb (kitO (rents bv)) + rrest bv m.all.length m.cells tb) F v.thread v.op v.arg v.data (by omega) (by omega) q0 h4 h').mono ?_
    rintro e w' ⟨rfl, S', hM, h2'⟩
    exact ⟨rfl, _, ⟨hi, seats, tb, S', h1, h2, h3, hM, rfl⟩, h2'.of_eq (by ac_rfl)⟩
  have hmv : m.moves < 65536 := by omega
  rw [rmove_lt hmv]
  have idle : m.move0 v = (m, false) → Calls Try.prog 19 (moveArgs bM v.thread v.op v.arg v.data) w (ListPost W bM bm (.map (some kb)) (m.words.map un) m.trace (m.moves + 1) m.calls seats (pt kb (kitO (rents bv)) + rrest bv m.all.length m.cells tb) F (.bool false)) →
      Calls Try.prog 19 (moveArgs bM v.thread v.op v.arg v.data) w (RgPost W bM bm kb bv { (m.move0 v).1 with moves := m.moves + 1 } (m.move0 v).2 F) := by
    intro e0 hk
    rw [e0]
    refine hk.mono ?_
    rintro e w' ⟨rfl, S', hM, h2'⟩
    exact ⟨rfl, _, ⟨hi.tick hmv, seats, tb, S', h1, h2, h3, hM, rfl⟩, h2'.of_eq (by ac_rfl)⟩
  by_cases q1 : v.thread < 0 ∨ (m.all.length : Int) ≤ v.thread
  · refine idle (by unfold RM.move0; rw [if_pos q1]) ?_
    exact move_none W w bM bm (.map (some kb)) (m.words.map un) m.trace m.moves m.calls seats Sm (pt kb (kitO (rents bv)) + rrest bv m.all.length m.cells tb) F v.thread v.op v.arg v.data (by omega) (by omega) hmv hm0.1 (by omega) h4 h'
  obtain ⟨t, ht⟩ := Int.eq_ofNat_of_zero_le (show 0 ≤ v.thread by omega)
  have hlt : t < m.all.length := by omega
  have hx := List.getElem?_eq_getElem hlt
  have hT : v.thread.toNat = t := by omega
  have hth : m.th v.thread.toNat = m.all[t] := by rw [hT]; exact th_of hx
  generalize m.all[t] = x at hx hth
  obtain ⟨s, b, e1, e2, hs⟩ := h3 t x hx
  by_cases q2 : v.op = 0
  · by_cases q3 : x.call < 0
    · refine idle (by unfold RM.move0; rw [if_neg q1, if_pos q2, hth, if_pos q3]) ?_
      rcases hs with ⟨_, htask, _⟩ | ⟨hs, _⟩
      · rw [q2, ht]
        exact move_idle W w bM bm (.map (some kb)) (m.words.map un) m.trace m.moves m.calls seats Sm (pt kb (kitO (rents bv)) + rrest bv m.all.length m.cells tb) F v.arg v.data t s e1 htask (by omega) (by omega) hmv hm0.1 h4 h'
      · omega
    · have e0 : m.move0 v = (m.step t, true) := by unfold RM.move0; rw [if_neg q1, if_pos q2, hth, if_neg q3, hT]
      rw [e0, q2, ht]
      exact rpr_step W w bM bm kb bv F hi hmv h1 h2 h3 h4 t x hx (by omega) v.arg v.data h
  by_cases q3 : 0 ≤ x.call
  · refine idle (by unfold RM.move0; rw [if_neg q1, if_neg q2, hth, if_pos (.inl q3)]) ?_
    rcases hs with ⟨hs, _⟩ | ⟨_, _, _, c, bt, hc, hlast, htask, _⟩
    · omega
    · rw [ht]
      exact move_busy W w bM bm (.map (some kb)) (m.words.map un) m.trace m.moves m.calls seats Sm (pt kb (kitO (rents bv)) + rrest bv m.all.length m.cells tb) F v.op v.arg v.data t s _ bt e1 htask q2 (by omega) (by omega) hmv hm0.1 h4 h'
  rcases hs with ⟨_, htask, _⟩ | ⟨hs, _⟩
  rotate_left
  · omega
  by_cases q4 : legal v.op = true
  · have e0 : m.move0 v = (m.begins t v.op v.arg v.data, true) := by
      unfold RM.move0; rw [if_neg q1, if_neg q2, hth, if_neg (by rw [q4]; simp; omega), hT]
    rw [e0, ht]
    rcases legal_iff.1 q4 with q5 | q5
    · rw [q5]
      exact rpr_begin W w bM bm kb bv F hi hmv h1 h2 h3 h4 t x hx (by omega) 100 v.arg v.data harg (.inl rfl) 73 rfl (fun args w => by kernel_rfl) (fun w S hh => make_put W w bv 100 v.arg v.data m.all.length m.cells S t hh) h
    · rw [q5]
      exact rpr_begin W w bM bm kb bv F hi hmv h1 h2 h3 h4 t x hx (by omega) 101 v.arg v.data harg (.inr rfl) 74 rfl (fun args w => by kernel_rfl) (fun w S hh => make_pick W w bv 101 v.arg v.data m.all.length m.cells S t hh) h
  · refine idle (by unfold RM.move0; rw [if_neg q1, if_neg q2, hth, if_pos (.inr (by simpa using q4))]) ?_
    rw [ht]
    have q5 : v.op ≠ 100 ∧ v.op ≠ 101 := by rw [legal_iff, not_or] at q4; exact q4
    exact move_unknown W w bM bm kb (m.words.map un) m.trace m.moves m.calls seats Sm (rrest bv m.all.length m.cells tb) F v.op v.arg v.data t s (rents bv) e1 htask q2 (by simp only [lookOf, rents, if_neg q5.1, if_neg q5.2]) (by omega) (by omega) hmv hm0.1 h4 h''
end

end Go.Proofs.Ythifeaigdobonaa
