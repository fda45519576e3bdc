/- ReadTrue: what lies in the world at each round: the contracts. -/
import Derived.Test.YtmafdjhjmnghcaaGreatReadRV
import Derived.Test.YtmafdjhjmnghcaaGreatReadStores
set_option linter.unusedVariables false
set_option linter.unusedSimpArgs false
namespace Go.Proofs.YtmafdjhjmnghcaaGreat
open Go.RowKit Go.Lf
structure TS (w wr : World) (c : Cfg) (b mb r : Nat) (x : Vw) (n : Nat) (s : RS) (rest : List WSt) (ta : Option Addr) (tc : Nat) (sn : List Int) (sa : Option Addr) (scp : Nat) : Prop where
  rv : RV w wr (fun k => (Value.slice ta rest.length tc).ownBlock = some k ∨ (Value.slice sa sn.length scp).ownBlock = some k) c b mb x n r s
  todo : Rd wr 2 (.slice ta rest.length tc) rest.length (stCells (c.tow 0) c.descs rest)
  cap : rest.length ≤ tc
  seen : wr.ownsRow 0 26 1 (.slice sa sn.length scp) sn.length (u64s sn)
  nb : ∀ k, (Value.slice sa sn.length scp).ownBlock = some k → w.heap.size ≤ k
  ne : ∀ k, (Value.slice ta rest.length tc).ownBlock = some k → (Value.slice sa sn.length scp).ownBlock = some k → False
  rng : ∀ st ∈ rest, st.rng c.lk
section
variable {w wr w' : World} {c : Cfg} {b mb r n : Nat} {x : Vw} {s : RS} {rest : List WSt} {ta : Option Addr} {tc : Nat} {sn : List Int} {sa : Option Addr} {scp : Nat}
theorem TS.quiet (h : TS w wr c b mb r x n s rest ta tc sn sa scp) (hk : Keep Nil wr w') : TS w w' c b mb r x n s rest ta tc sn sa scp :=
  ⟨h.rv.quiet hk, rd_keep h.todo hk (fun _ _ h => h), h.cap, row_keep h.seen hk (fun _ _ h => h), h.nb, h.ne, h.rng⟩
def TStepTo (w wr : World) (c : Cfg) (b mb r : Nat) (x : Vw) (n : Nat) (pc : Int) (s : RS) (rest : List WSt) (ta : Option Addr) (tc : Nat) (sn : List Int) (sa : Option Addr) (scp : Nat) (e : Ending) (w' : World) : Prop :=
  e = .returned (.tuple #[.int .u8 pc, .bool s.ended]) ∧ TS w w' c b mb r x n s rest ta tc sn sa scp
theorem ts_step (h : TS w wr c b mb r x n s rest ta tc sn sa scp) (hok : c.ok) (hn : 0 < c.nT) (tw : s.tower = 1) (th : s.th = 1) (hg : s.good c.lk) (hl : n < 1000000) :
    Calls Tryz.prog 34 #[.pointer (some ⟨r, 0, none⟩)] wr (TStepTo w wr c b mb r x (n + 1) s.next (s.step c.lk (x.word s)) rest ta tc sn sa scp) := by
  refine (rv_step h.rv hok hn tw th hg hl).mono ?_
  rintro e w' ⟨rfl, h1, hk⟩
  exact ⟨rfl, h1, rd_keep h.todo hk (fun k e h => h (.inl e)), h.cap, row_keep h.seen hk (fun k e h => h (.inr e)), h.nb, h.ne, h.rng⟩
def TPutTo (w wr : World) (c : Cfg) (b mb r : Nat) (x : Vw) (n : Nat) (s : RS) (rest : List WSt) (ta : Option Addr) (tc : Nat) (sn : List Int) (sa : Option Addr) (scp : Nat) (e : Ending) (w' : World) : Prop :=
  e = .returned (.int .i64 0) ∧ TS w w' c b mb r x n s rest ta tc sn sa scp
theorem ts_put {st : WSt} (h : TS w wr c b mb r x n s (st :: rest) ta tc sn sa scp) (hn : 0 < c.nT) (a v : Int) (ha : a = st.addr (c.tow 0) c.descs) (hv : v = st.val) (hl : n < 1000000) :
    Calls Tryz.prog 25 #[.pointer (some ⟨mb, 0, none⟩), .int .i64 0, .int .i64 a, .int .u64 v] wr (TPutTo w wr c b mb r (x.put st) (n + 1) s (st :: rest) ta tc sn sa scp) := by
  refine (rv_put h.rv hn st (h.rng st (List.mem_cons_self ..)) a v ha hv hl).mono ?_
  rintro e w' ⟨rfl, h1, hk⟩
  exact ⟨rfl, h1, rd_keep h.todo hk (fun k e h => h (.inl e)), h.cap, row_keep h.seen hk (fun k e h => h (.inr e)), h.nb, h.ne, h.rng⟩
theorem TS.more (h : TS w wr c b mb r x n s rest ta tc sn sa scp) (m : Nat) (hm : n ≤ m) : TS w wr c b mb r x m s rest ta tc sn sa scp := by
  obtain ⟨A, ws, log, h1, h2, h3, h4, h5, h6, h7⟩ := h.rv.ex
  exact ⟨⟨⟨A, ws, log, h1, h2, h3, h4, h5, h6, by omega⟩, h.rv.at_, h.rv.ge, h.rv.own⟩, h.todo, h.cap, h.seen, h.nb, h.ne, h.rng⟩
/-- The first of the stores is taken off. -/
theorem TS.drop {st : WSt} (h : TS w wr c b mb r x n s (st :: rest) ta tc sn sa scp) : ∃ tb off, ta = some ⟨tb, off, none⟩ ∧ wr.cell? ⟨tb, off, none⟩ = some (.int .i64 (st.addr (c.tow 0) c.descs : Nat)) ∧ wr.cell? ⟨tb, off + 1, none⟩ = some (.int .u64 st.val) ∧
    (∀ off' tc', rest.length ≤ tc' → (off' = off + 2 ∨ rest = []) → TS w wr c b mb r x n s rest (some ⟨tb, off', none⟩) tc' sn sa scp) := by
  obtain ⟨tb, off, cc, hv, hc⟩ := Rd.cell h.todo (by simp)
  simp only [Value.slice.injEq] at hv
  obtain ⟨hv1, -, hv2⟩ := hv
  have c0 := hc 0 (.int .i64 (st.addr (c.tow 0) c.descs : Nat)) rfl
  have c1 := hc 1 (.int .u64 st.val) rfl
  refine ⟨tb, off, hv1, c0, c1, fun off' tc' hcap ho => ?_⟩
  subst hv1
  have hb : ∀ k, (Value.slice (some ⟨tb, off', none⟩) rest.length tc').ownBlock = some k → (Value.slice (some ⟨tb, off, none⟩) (st :: rest).length tc).ownBlock = some k := fun k e => e
  refine ⟨h.rv.other (Keep.refl Nil wr) (fun _ e => e.elim) (fun k e => .inl (e.elim (fun e => .inl (hb k e)) .inr)) (fun _ e => e.elim), ?_, hcap, h.seen, h.nb, fun k e => h.ne k (hb k e), fun y hy => h.rng y (List.mem_cons_of_mem _ hy)⟩
  refine ⟨_, tc', rfl, stCells_len _ _ _, ?_⟩
  rcases ho with rfl | rfl
  · refine .inr (.inl ⟨tb, off + 2, rfl, fun j u hu => ?_⟩)
    have := hc (2 + j) u (by
      have : stCells (c.tow 0) c.descs (st :: rest) = [.int .i64 (st.addr (c.tow 0) c.descs : Nat), .int .u64 st.val] ++ stCells (c.tow 0) c.descs rest := rfl
      rw [this, List.getElem?_append_right (by simp)]
      rw [show 2 + j - [Value.int .i64 (st.addr (c.tow 0) c.descs : Nat), Value.int .u64 st.val].length = j by simp]
      exact hu)
    rwa [← Nat.add_assoc] at this
  · exact .inr (.inr ⟨⟨_, rfl⟩, rfl⟩)
/-- A value has been seen. -/
theorem TS.app (h : TS w wr c b mb r x n s rest ta tc sn sa scp) (v : Int) {o : Obj} {sa' : Option Addr} {scp' : Nat} {w' : World} (ho : w'.ownsRow 0 26 1 (.slice sa' (sn.length + 1) scp') (sn.length + 1) (u64s sn ++ [.int .u64 v])) (hg : (wr.alloc o).grownBy w' (Value.slice sa sn.length scp).ownBlock) (hs : RowStep (wr.alloc o) (.slice sa sn.length scp) (.slice sa' (sn.length + 1) scp')) : TS w w' c b mb r x n s rest ta tc (sn ++ [v]) sa' scp' := by
  have hk : Keep (fun k => (Value.slice sa sn.length scp).ownBlock = some k) wr w' := ((Keep.refl _ wr).alloc o).grown hg (fun k e => .inl e)
  have hlen : (sn ++ [v]).length = sn.length + 1 := by simp
  have hsz : wr.heap.size < w'.heap.size ∨ True := .inr trivial
  have hlt : ∀ k, (Value.slice sa' (sn.length + 1) scp').ownBlock = some k → k < w'.heap.size := fun k e => row_lt ho k e
  have hnew : ∀ k, (Value.slice sa' (sn.length + 1) scp').ownBlock = some k → (Value.slice sa sn.length scp).ownBlock = some k ∨ (wr.heap.size ≤ k ∧ k < w'.heap.size) := fun k e => by
    rcases hs k e with h1 | h1
    · exact .inl h1
    · exact .inr ⟨by simp at h1; omega, hlt k e⟩
  have htb : ∀ k, (Value.slice ta rest.length tc).ownBlock = some k → k < wr.heap.size := fun k e => by
    obtain ⟨A, ws, log, hl, hA, hr, hOA, -⟩ := h.rv.ex
    exact (hOA k (.inl e)).2.2
  refine ⟨?_, rd_keep h.todo hk (fun k e1 e2 => h.ne k e1 e2), h.cap, ?_, fun k e => ?_, fun k e1 e2 => ?_, h.rng⟩
  · rw [hlen]
    refine h.rv.other hk (fun k e => .inl (.inr e)) (fun k e => ?_) (fun k e => h.nb k e)
    rcases e with e | e
    · exact .inl (.inl e)
    · exact (hnew k e).elim (fun e => .inl (.inr e)) .inr
  · rw [hlen]
    have : u64s (sn ++ [v]) = u64s sn ++ [.int .u64 v] := by simp [u64s]
    rw [this]
    exact ho
  · rw [hlen] at e
    rcases hnew k e with h1 | h1
    · exact h.nb k h1
    · have := h.rv.own.size; omega
  · rw [hlen] at e2
    rcases hnew k e2 with h1 | h1
    · exact h.ne k e1 h1
    · have := htb k e1; omega
def TPutSh (w wr : World) (c : Cfg) (b mb r : Nat) (x : Vw) (n : Nat) (s : RS) (rest : List WSt) (ta : Option Addr) (tc : Nat) (sn : List Int) (sa : Option Addr) (scp : Nat) (v : Int) (p : Bool) (e : Ending) (w' : World) : Prop :=
  e = .returned (.tuple #[.int .u64 v, .bool p]) ∧ TS w w' c b mb r x n s rest ta tc sn sa scp
theorem ts_shown (h : TS w wr c b mb r x n s rest ta tc sn sa scp) (hok : c.ok) (hn : 0 < c.nT) (v : Int) (p : Bool) (hv : x.shown c.lk = (v, p)) :
    Calls Tryz.prog 46 #[.pointer (some ⟨b, 0, none⟩), .int .i64 1] wr (TPutSh w wr c b mb r x n s rest ta tc sn sa scp v p) := by
  refine (rv_shown h.rv hok hn v p hv).mono ?_
  rintro e w' ⟨rfl, hk⟩
  exact ⟨rfl, h.quiet hk⟩
/-- The first round. -/
theorem TS.start {n : Nat} {all : List WSt} {a : Option Addr} {cp : Nat} {w2 : World} (h : RV w wr Nil c b mb x n r s) (hk : Keep Nil wr w2) (hrd : Rd w2 2 (.slice a all.length cp) all.length (stCells (c.tow 0) c.descs all)) (hcap : all.length ≤ cp) (hb : ∀ k, (Value.slice a all.length cp).ownBlock = some k → wr.heap.size ≤ k ∧ k < w2.heap.size) (hr : ∀ st ∈ all, st.rng c.lk) :
    TS w w2 c b mb r x n s all a cp [] none 0 :=
  ⟨h.other hk (fun _ e => e.elim) (fun k e => e.elim (fun e => .inr (hb k e)) (fun e => by cases e)) (fun _ e => e.elim), hrd, hcap, ⟨rfl, .inl ⟨rfl, rfl⟩⟩, fun k e => (by cases e), fun k _ e => (by cases e), hr⟩
end
end Go.Proofs.YtmafdjhjmnghcaaGreat
