/- Regions that draw their order: operations that nothing orders may change places. -/
import Derived.Test.YtdfbfcohindpnaaAmFrame2
set_option linter.unusedVariables false
set_option linter.unusedSimpArgs false
namespace Go.AM
open Go
mutual
theorem beq_eq : ∀ {a b : V}, V.beq a b = true → a = b
  | .bool a, b, h => by cases b <;> simp [V.beq] at h; subst h; rfl
  | .int k a, b, h => by cases b <;> simp [V.beq] at h; obtain ⟨rfl, rfl⟩ := h; rfl
  | .nilp, b, h => by cases b <;> simp [V.beq] at h; rfl
  | .ptr x i j, b, h => by cases b <;> simp [V.beq] at h; obtain ⟨⟨rfl, rfl⟩, rfl⟩ := h; rfl
  | .nils, b, h => by cases b <;> simp [V.beq] at h; rfl
  | .slice x i l c e z, b, h => by cases b <;> simp [V.beq] at h; obtain ⟨⟨⟨⟨⟨rfl, rfl⟩, rfl⟩, rfl⟩, rfl⟩, rfl⟩ := h; rfl
  | .nilf, b, h => by cases b <;> simp [V.beq] at h; rfl
  | .fn f x y, b, h => by
    cases b <;> simp [V.beq] at h
    obtain ⟨⟨rfl, h1⟩, h2⟩ := h
    rw [beqs_eq h1, beqs_eq h2]
  | .agg x, b, h => by
    cases b <;> simp [V.beq] at h
    rw [beqs_eq h]
  | .tup x, b, h => by
    cases b <;> simp [V.beq] at h
    rw [beqs_eq h]
theorem beqs_eq : ∀ {a b : List V}, V.beqs a b = true → a = b
  | [], b, h => by cases b <;> simp [V.beqs] at h; rfl
  | x :: xs, b, h => by
    cases b <;> simp [V.beqs] at h
    rw [beq_eq h.1, beqs_eq h.2]
end
section
variable {fr fr' : Frame} {m m' : Mem} {d : Option Nat} {v u : V}

theorem noSlot_sub {l l' : List Nat} (h : noSlot d l = true) (hs : ∀ x ∈ l', x ∈ l) : noSlot d l' = true := by
  cases d with
  | none => rfl
  | some i =>
    simp only [noSlot, Bool.not_eq_true', List.contains_eq_mem, decide_eq_false_iff_not] at h ⊢
    exact fun hm => h (hs i hm)
theorem noSlot_not {i : Nat} {l : List Nat} (h : noSlot (some i) l = true) : i ∉ l := by
  simpa only [noSlot, Bool.not_eq_true', List.contains_eq_mem, decide_eq_false_iff_not] using h
theorem putO_other {i : Nat} (h : noSlot d [i] = true) : putO fr d v i = fr i := by
  cases d with
  | none => rfl
  | some j =>
    have := noSlot_not h
    simp only [List.mem_singleton] at this
    simp only [putO, put]
    rw [if_neg (fun e => this e.symm)]
theorem get_put {a : Arg} (h : noSlot d a.slots = true) : a.get (putO fr d v) = a.get fr := by
  cases a with
  | t i => exact putO_other h
  | c v => rfl
theorem gets_put : ∀ {l : List Arg}, noSlot d (l.flatMap Arg.slots) = true → l.map (·.get (putO fr d v)) = l.map (·.get fr)
  | [], _ => rfl
  | a :: l, h => by
    simp only [List.flatMap_cons] at h
    simp only [List.map_cons]
    rw [get_put (noSlot_sub h (fun x hx => by simp [hx])), gets_put (noSlot_sub h (fun x hx => by simp [hx]))]
theorem opt_put {o : Option Arg} (h : noSlot d (optSlots o) = true) : o.map (·.get (putO fr d v)) = o.map (·.get fr) := by
  cases o with
  | none => rfl
  | some a => simp only [Option.map_some]; rw [get_put h]
theorem prim_put {o : AOp} {tgt : Option Nat} (h : noSlot d o.slots = true) : prim o tgt (putO fr d v) m = prim o tgt fr m := by
  cases o <;> simp only [AOp.slots] at h <;> simp only [prim]
  case mv => rw [get_put h]
  case nilck => rw [get_put h]
  case pick => rw [get_put (noSlot_sub h (fun x hx => by simp [hx])), get_put (noSlot_sub h (fun x hx => by simp [hx])), get_put (noSlot_sub h (fun x hx => by simp [hx]))]
  case box => rw [get_put h]
  case build z ps =>
    have : ps.map (fun p => (p.1, p.2.1, p.2.2.get (putO fr d v))) = ps.map (fun p => (p.1, p.2.1, p.2.2.get fr)) := by
      induction ps with
      | nil => rfl
      | cons p ps ih =>
        simp only [List.flatMap_cons] at h
        simp only [List.map_cons]
        rw [get_put (noSlot_sub h (fun x hx => by simp [hx])), ih (noSlot_sub h (fun x hx => by simp [hx]))]
    rw [this]
  case bslice z n ps =>
    have : ps.map (fun p => (p.1, p.2.get (putO fr d v))) = ps.map (fun p => (p.1, p.2.get fr)) := by
      induction ps with
      | nil => rfl
      | cons p ps ih =>
        simp only [List.flatMap_cons] at h
        simp only [List.map_cons]
        rw [get_put (noSlot_sub h (fun x hx => by simp [hx])), ih (noSlot_sub h (fun x hx => by simp [hx]))]
    rw [this]
  case load => rw [get_put h]
  case un => rw [get_put h]
  case conv => rw [get_put h]
  case fieldAddr => rw [get_put h]
  case field => rw [get_put h]
  case extract => rw [get_put h]
  case len => rw [get_put h]
  case clear => rw [get_put h]
  case mkfn => rw [gets_put (noSlot_sub h (fun x hx => by simp [hx])), gets_put (noSlot_sub h (fun x hx => by simp [hx]))]
  case slice =>
    rw [get_put (noSlot_sub h (fun x hx => by simp [hx])), opt_put (noSlot_sub h (fun x hx => by simp [hx])), opt_put (noSlot_sub h (fun x hx => by simp [hx])), opt_put (noSlot_sub h (fun x hx => by simp [hx]))]
  all_goals first
    | rfl
    | rw [get_put (noSlot_sub h (fun x hx => by simp [hx])), get_put (noSlot_sub h (fun x hx => by simp [hx]))]
theorem step_put {call : CallF} {o : AOp} {tgt : Option Nat} (h : noSlot d o.slots = true) : step call o tgt (putO fr d v) m = step call o tgt fr m := by
  cases o
  case call f as =>
    simp only [AOp.slots] at h
    simp only [step]
    rw [get_put (noSlot_sub h (fun x hx => by simp [hx])), gets_put (noSlot_sub h (fun x hx => by simp [hx]))]
  all_goals
    simp only [step]
    exact prim_put h
theorem wanted_put {g : Option (Nat × Bool)} (h : noSlot d (gSlots g) = true) : wantedA g (putO fr d v) = wantedA g fr := by
  cases g with
  | none => rfl
  | some p =>
    obtain ⟨t, want⟩ := p
    simp only [wantedA]
    rw [putO_other h]
theorem chk_put {l : List (Option (Nat × Bool) × Nat × Option Nat × Arg)} (h : noSlot d (chkSlots l) = true) : chkOk l (putO fr d v) m = chkOk l fr m := by
  induction l with
  | nil => rfl
  | cons c l ih =>
    obtain ⟨g, i, k, a⟩ := c
    simp only [chkSlots, List.flatMap_cons] at h
    have h1 : noSlot d (chkSlots l) = true := noSlot_sub h (fun x hx => by simp only [chkSlots] at hx; simp [hx])
    have ih := ih h1
    simp only [chkOk, List.all_cons] at ih ⊢
    rw [ih, wanted_put (noSlot_sub h (fun x hx => by simp [hx])), get_put (noSlot_sub h (fun x hx => by simp [hx])), putO_other (noSlot_sub h (fun x hx => by simp at hx; simp [hx]))]

/-- what an operation has, and leaves. -/
def val (call : CallF) (base : Nat) (o : AOper) (fr : Frame) (m : Mem) : Option (V × Mem) :=
  if wantedA o.g fr then
    match step call o.op (o.res.map (base + ·)) fr m with
    | some (v, m') => if chkOk o.chk fr m' then some (v, m') else none
    | none => none
  else some (undef, m)
theorem run1_val {call : CallF} {base : Nat} {o : AOper} : run1 call base o fr m = (val call base o fr m).map fun p => (putO fr o.dst p.1, p.2) := by
  unfold run1 val
  split
  · generalize step call o.op (Option.map (fun x => base + x) o.res) fr m = r
    cases r with
    | none => rfl
    | some p =>
      simp only
      split <;> rfl
  · rfl
theorem val_put {call : CallF} {base : Nat} {o : AOper} (h : noSlot d (o.reads ++ chkSlots o.chk) = true) : val call base o (putO fr d v) m = val call base o fr m := by
  unfold val
  simp only [AOper.reads] at h
  rw [wanted_put (noSlot_sub h (fun x hx => by simp [hx])), step_put (noSlot_sub h (fun x hx => by simp [hx]))]
  split
  · split
    · rw [chk_put (noSlot_sub h (fun x hx => by simp [hx]))]
    · rfl
  · rfl
theorem pure_prim {o : AOp} (h : clsOf o = .pure) {tgt : Option Nat} (hp : prim o tgt fr m = some (v, m')) : m' = m ∧ ∀ (M : Mem) (tgt' : Option Nat), prim o tgt' fr M = some (v, M) := by
  have quiet : ∀ {r : Option V}, (r.map fun v => (v, m)) = some (v, m') → m' = m ∧ ∀ (M : Mem), (r.map fun v => (v, M)) = some (v, M) := by
    intro r hr
    simp only [Option.map_eq_some_iff] at hr
    obtain ⟨u, hu, e⟩ := hr
    cases e
    exact ⟨rfl, fun M => by rw [hu]; rfl⟩
  cases o <;> simp only [clsOf, reduceCtorEq] at h <;> simp only [prim] at hp ⊢
  case mv => cases hp; exact ⟨rfl, fun _ _ => rfl⟩
  case nilck => split at hp <;> cases hp; exact ⟨rfl, fun _ _ => by simp only [*]⟩
  case pick => split at hp <;> cases hp; exact ⟨rfl, fun _ _ => by simp only [*]⟩
  case build => exact ⟨(quiet hp).1, fun M _ => (quiet hp).2 M⟩
  case bin => exact ⟨(quiet hp).1, fun M _ => (quiet hp).2 M⟩
  case eq => exact ⟨(quiet hp).1, fun M _ => (quiet hp).2 M⟩
  case ne => exact ⟨(quiet hp).1, fun M _ => (quiet hp).2 M⟩
  case un => exact ⟨(quiet hp).1, fun M _ => (quiet hp).2 M⟩
  case conv => split at hp <;> cases hp; exact ⟨rfl, fun _ _ => by simp only [*]⟩
  case mkfn => cases hp; exact ⟨rfl, fun _ _ => rfl⟩
  case slice =>
    split at hp
    · rename_i hc; exact ⟨(quiet hp).1, fun M _ => by rw [if_pos hc]; exact (quiet hp).2 M⟩
    · cases hp
  case fieldAddr => split at hp <;> cases hp; exact ⟨rfl, fun _ _ => by simp only [*]⟩
  case field =>
    split at hp
    · exact ⟨(quiet hp).1, fun M _ => (quiet hp).2 M⟩
    · cases hp
  case indexAddr =>
    split at hp
    · split at hp <;> cases hp; exact ⟨rfl, fun _ _ => by simp [*]⟩
    · cases hp
  case indexArr =>
    split at hp
    · split at hp <;> cases hp; exact ⟨rfl, fun _ _ => by simp [*]⟩
    · cases hp
  case extract =>
    split at hp
    · exact ⟨(quiet hp).1, fun M _ => (quiet hp).2 M⟩
    · cases hp
  case len => split at hp <;> cases hp <;> exact ⟨rfl, fun _ _ => by simp only [*]⟩
  case min => split at hp <;> cases hp; exact ⟨rfl, fun _ _ => by simp only [*]⟩
  case max => split at hp <;> cases hp; exact ⟨rfl, fun _ _ => by simp only [*]⟩
theorem alloc_prim {o : AOp} (h : clsOf o = .alloc) {id : Nat} (hp : prim o (some id) fr m = some (v, m')) : ∃ blk, m' = m.set id blk ∧ ∀ (M : Mem), M[id]? = some .dead → prim o (some id) fr M = some (v, M.set id blk) := by
  have new : ∀ {x : Blk} {f : Nat → V}, ((newBlk m (some id) x).map fun y => (f y.1, y.2)) = some (v, m') → ∃ blk, m' = m.set id blk ∧ ∀ (M : Mem), M[id]? = some .dead → ((newBlk M (some id) x).map fun y => (f y.1, y.2)) = some (v, M.set id blk) := by
    intro x f hr
    simp only [newBlk, Option.map_eq_some_iff] at hr
    obtain ⟨⟨b, m1⟩, hb, e⟩ := hr
    split at hb
    · cases hb
      cases e
      exact ⟨x, rfl, fun M hM => by simp [newBlk, hM]⟩
    · cases hb
  cases o <;> simp only [clsOf, reduceCtorEq] at h <;> simp only [prim] at hp ⊢
  case alloc => exact new (f := fun b => .ptr b 0 0) hp
  case box =>
    split at hp
    · rename_i hc
      obtain ⟨blk, h1, h2⟩ := new (f := fun b => .ptr b 0 0) hp
      exact ⟨blk, h1, fun M hM => by rw [if_pos hc]; exact h2 M hM⟩
    · cases hp
  case bslice =>
    simp only [Option.bind_eq_some_iff] at hp
    obtain ⟨els, he, hp⟩ := hp
    obtain ⟨blk, h1, h2⟩ := new (f := fun b => .slice b 0 _ _ true _) hp
    exact ⟨blk, h1, fun M hM => by rw [he]; exact h2 M hM⟩
  case mkslice =>
    split at hp
    · split at hp
      · rename_i hx hy hc
        obtain ⟨blk, h1, h2⟩ := new (f := fun b => .slice b 0 _ _ true _) hp
        exact ⟨blk, h1, fun M hM => by rw [if_pos hc]; exact h2 M hM⟩
      · cases hp
    · cases hp

/-- the same operation, less looked at behind it. -/
structure Less (o' o : AOper) : Prop where
  dst : o'.dst = o.dst
  g : o'.g = o.g
  op : o'.op = o.op
  res : o'.res = o.res
  chk : ∀ c ∈ o'.chk, c ∈ o.chk
theorem Less.refl (o : AOper) : Less o o := ⟨rfl, rfl, rfl, rfl, fun _ h => h⟩
theorem Less.trans {a b c : AOper} (h : Less a b) (k : Less b c) : Less a c := ⟨h.dst.trans k.dst, h.g.trans k.g, h.op.trans k.op, h.res.trans k.res, fun x hx => k.chk x (h.chk x hx)⟩
/-- what names a slot is left out. -/
def strike (d : Option Nat) (o : AOper) : AOper := { o with chk := o.chk.filter fun c => noSlot d (chkSlots [c]) }
theorem strike_less (d : Option Nat) (o : AOper) : Less (strike d o) o := ⟨rfl, rfl, rfl, rfl, fun _ h => (List.mem_filter.1 h).1⟩
theorem strike_slots (d : Option Nat) (o : AOper) : noSlot d (chkSlots (strike d o).chk) = true := by
  cases d with
  | none => rfl
  | some i =>
    simp only [noSlot, Bool.not_eq_true', List.contains_eq_mem, decide_eq_false_iff_not]
    intro h
    simp only [chkSlots, List.mem_flatMap] at h
    obtain ⟨c, hc, hi⟩ := h
    have := (List.mem_filter.1 hc).2
    have := noSlot_not this
    exact this (by simp only [chkSlots, List.mem_flatMap]; exact ⟨c, by simp, hi⟩)
theorem chk_less {l l' : List (Option (Nat × Bool) × Nat × Option Nat × Arg)} (h : ∀ c ∈ l', c ∈ l) (hk : chkOk l fr m = true) : chkOk l' fr m = true := by
  simp only [chkOk, List.all_eq_true] at hk ⊢
  exact fun c hc => hk c (h c hc)
theorem val_less {call : CallF} {base : Nat} {o o' : AOper} (h : Less o' o) {r : V × Mem} (hv : val call base o fr m = some r) : val call base o' fr m = some r := by
  unfold val at hv ⊢
  rw [h.g, h.op, h.res]
  split at hv
  · rename_i hw
    rw [if_pos hw]
    split at hv
    · split at hv
      · rename_i hc
        rw [if_pos (chk_less h.chk hc)]
        exact hv
      · cases hv
    · cases hv
  · rename_i hw
    rw [if_neg hw]
    exact hv
theorem putO_comm {d e : Option Nat} (h : noSlot e d.toList = true) : putO (putO fr d v) e u = putO (putO fr e u) d v := by
  cases d with
  | none => rfl
  | some i =>
    cases e with
    | none => rfl
    | some j =>
      have := noSlot_not h
      simp only [Option.toList_some, List.mem_singleton] at this
      funext k
      simp only [putO, put]
      by_cases h1 : k = j
      · subst h1; rw [if_pos rfl, if_neg this, if_pos rfl]
      · by_cases h2 : k = i
        · subst h2; rw [if_neg h1, if_pos rfl, if_pos rfl]
        · rw [if_neg h1, if_neg h2, if_neg h2, if_neg h1]
theorem pairOk_cases {a b : Cls} (h : pairOk a b = true) : a = .pure ∨ b = .pure ∨ (a = .load ∧ b = .load) ∨ (a = .load ∧ b = .eff) ∨ b = .alloc := by
  cases a <;> cases b <;> simp [pairOk] at h ⊢
theorem not_call {o : AOp} (h : clsOf o ≠ .eff) {call : CallF} {tgt : Option Nat} : step call o tgt fr m = prim o tgt fr m := by
  cases o <;> first | rfl | (simp [clsOf] at h)

/-- one may go ahead of the other. -/
theorem swap {call : CallF} (hfr : FrameC call) {base k : Nat} {x i : AOper} (hx : lonely k x = true) (hi : lonely k i = true) (hind : indep x i = true) (hres : resApart x i = true) {fr : Frame} {m m1 m2 : Mem} {v u : V}
    (hpend : ∀ j, i.res = some j → m[base + j]? = some .dead) (h1 : val call base x fr m = some (v, m1)) (h2 : val call base i (putO fr x.dst v) m1 = some (u, m2)) :
    ∃ m1', val call base (strike x.dst i) fr m = some (u, m1') ∧ val call base x (putO fr i.dst u) m1' = some (v, m2) ∧ putO (putO fr x.dst v) i.dst u = putO (putO fr i.dst u) x.dst v := by
  simp only [indep, Bool.and_eq_true] at hind
  obtain ⟨hcls, hap, hck⟩ := hind
  simp only [apartA, Bool.and_eq_true] at hap
  obtain ⟨ap1, ap2, ap3⟩ := hap
  simp only [lonely, Bool.and_eq_true, Bool.or_eq_true, beq_iff_eq, List.isEmpty_iff] at hx hi
  obtain ⟨hx1, hx2, hx3⟩ := hx
  obtain ⟨hi1, hi2, hi3⟩ := hi
  -- i, at the frame ahead of x
  have g2 : val call base (strike x.dst i) fr m1 = some (u, m2) := by
    have := val_less (strike_less x.dst i) h2
    rwa [val_put (by
      have h3 := strike_slots x.dst i
      cases hd : x.dst with
      | none => rfl
      | some d =>
        rw [hd] at h3 ap1
        have h4 := noSlot_not h3
        have h5 := noSlot_not ap1
        simp only [noSlot, Bool.not_eq_true', List.contains_eq_mem, decide_eq_false_iff_not, List.mem_append]
        rintro (h | h)
        · exact h5 h
        · exact h4 h)] at this
  have gx : ∀ M, val call base x (putO fr i.dst u) M = val call base x fr M := fun M => val_put ap2
  have gc : putO (putO fr x.dst v) i.dst u = putO (putO fr i.dst u) x.dst v := putO_comm ap3
  suffices h : ∃ m1', val call base (strike x.dst i) fr m = some (u, m1') ∧ val call base x fr m1' = some (v, m2) by
    obtain ⟨m1', h3, h4⟩ := h
    exact ⟨m1', h3, by rw [gx]; exact h4, gc⟩
  have unw : ∀ {o : AOper} {fr : Frame}, ¬ wantedA o.g fr = true → ∀ M, val call base o fr M = some (undef, M) := by
    intro o fr h M
    unfold val
    rw [if_neg h]
  by_cases wx : wantedA x.g fr = true
  case neg =>
    rw [unw wx] at h1
    cases h1
    exact ⟨m2, g2, unw wx m2⟩
  by_cases wi : wantedA (strike x.dst i).g fr = true
  case neg =>
    rw [unw wi] at g2
    cases g2
    exact ⟨m, unw wi m, h1⟩
  have ex : ∀ {o : AOper} {fr : Frame} {M M' : Mem} {a : V}, wantedA o.g fr = true → val call base o fr M = some (a, M') → step call o.op (o.res.map (base + ·)) fr M = some (a, M') ∧ chkOk o.chk fr M' = true := by
    intro o fr M M' a hw h
    unfold val at h
    rw [if_pos hw] at h
    split at h
    · rename_i hs
      split at h
      · rename_i hc
        cases h
        exact ⟨hs, hc⟩
      · cases h
    · cases h
  have mk : ∀ {o : AOper} {fr : Frame} {M M' : Mem} {a : V}, wantedA o.g fr = true → step call o.op (o.res.map (base + ·)) fr M = some (a, M') → chkOk o.chk fr M' = true → val call base o fr M = some (a, M') := by
    intro o fr M M' a hw hs hc
    unfold val
    rw [if_pos hw, hs]
    simp only [hc, if_true]
  obtain ⟨sx, cx⟩ := ex wx h1
  obtain ⟨si, ci⟩ := ex wi g2
  have hio : (strike x.dst i).op = i.op := rfl
  have hir : (strike x.dst i).res = i.res := rfl
  rw [hio, hir] at si
  have nochk : ∀ {o : AOper} {fr : Frame} {M : Mem}, o.chk = [] → chkOk o.chk fr M = true := by
    intro o fr M h; rw [h]; rfl
  have schk : i.chk = [] → (strike x.dst i).chk = [] := by intro h; simp [strike, h]
  rcases pairOk_cases hcls with hc | hc | ⟨hc, hd⟩ | ⟨hc, hd⟩ | hc
  · have hne : clsOf x.op ≠ .eff := by rw [hc]; simp
    have hk : x.chk = [] := hx1.resolve_left (by simpa using hne)
    rw [not_call hne] at sx
    obtain ⟨rfl, hall⟩ := pure_prim hc sx
    exact ⟨m2, g2, mk wx (by rw [not_call hne]; exact hall m2 _) (nochk hk)⟩
  · have hne : clsOf i.op ≠ .eff := by rw [hc]; simp
    have hk : i.chk = [] := hi1.resolve_left (by simpa using hne)
    rw [not_call hne] at si
    obtain ⟨rfl, hall⟩ := pure_prim hc si
    exact ⟨m, mk wi (by rw [hio, not_call hne]; exact hall m _) (nochk (schk hk)), h1⟩
  · have hl : ∀ {o : AOp} {tgt : Option Nat} {M M' : Mem} {a : V}, clsOf o = .load → step call o tgt fr M = some (a, M') → M' = M := by
      intro o tgt M M' a h hs
      cases o <;> simp only [clsOf, reduceCtorEq] at h
      simp only [step, prim, Option.map_eq_some_iff] at hs
      obtain ⟨_, _, e⟩ := hs
      cases e
      rfl
    obtain rfl := hl hc sx
    obtain rfl := hl hd si
    exact ⟨_, g2, h1⟩
  · have hk : x.chk = [] := hx1.resolve_left (by rw [hc]; simp)
    simp only [hc, hd, beq_self_eq_true, Bool.and_self, Bool.not_true, Bool.false_or] at hck
    cases hxo : x.op with
    | load kk a =>
      cases hxd : x.dst with
      | none => simp [chkHas, hxo, hxd] at hck
      | some d =>
        cases a with
        | c c => simp [chkHas, hxo] at hck
        | t a =>
          simp only [chkHas, hxo, hxd, List.any_eq_true] at hck
          obtain ⟨⟨g', d', k', a'⟩, hmem, hh⟩ := hck
          cases a' with
          | c c => simp at hh
          | t b =>
            simp only [Bool.and_eq_true, beq_iff_eq] at hh
            obtain ⟨⟨⟨rfl, rfl⟩, rfl⟩, rfl⟩ := hh
            rw [hxo] at sx
            simp only [step, prim, Option.map_eq_some_iff] at sx
            obtain ⟨v', hl, e⟩ := sx
            cases e
            -- what is looked at behind i
            have wi' : wantedA i.g (putO fr x.dst v) = true := by rw [wanted_put (noSlot_sub ap1 (fun y hy => by simp [AOper.reads, hy]))]; exact wi
            have c2 := (ex wi' h2).2
            simp only [chkOk, List.all_eq_true] at c2
            have c3 := c2 _ hmem
            have hsl : noSlot x.dst x.reads = true := hx2.resolve_left (by rw [hc]; simp)
            have hb : (Arg.t b).get (putO fr (some d') v) = (Arg.t b).get fr := by
              rw [hxd] at hsl
              exact get_put (noSlot_sub hsl (fun y hy => by simp only [AOper.reads, hxo, AOp.slots, List.mem_append]; exact .inr hy))
            have hg : wantedA x.g (putO fr (some d') v) = true := by
              rw [hxd] at hsl
              rw [wanted_put (noSlot_sub hsl (fun y hy => by simp [AOper.reads, hy]))]; exact wx
            have hval : putO fr (some d') v d' = v := by simp [putO, put]
            simp only [hxd] at c3
            rw [hg, hb, hval] at c3
            simp only [Bool.not_true, Bool.false_or] at c3
            split at c3
            · rename_i v2 hv2
              have := beq_eq c3
              subst this
              refine ⟨m2, (by rw [hxd] at g2; exact g2), mk wx ?_ (nochk hk)⟩
              rw [hxo]
              simp only [step, prim, hv2, Option.map_some]
            · cases c3
    | _ => rw [hxo] at hc; simp [clsOf] at hc
  · have hne : clsOf i.op ≠ .eff := by rw [hc]; simp
    have hk : i.chk = [] := hi1.resolve_left (by simpa using hne)
    cases hr : i.res with
    | none => rw [hr] at hi3; simp [hc] at hi3
    | some j =>
      rw [hr] at si
      simp only [Option.map_some] at si
      rw [not_call hne] at si
      obtain ⟨blk, rfl, hall⟩ := alloc_prim hc si
      have hd := hpend j hr
      have ht : x.res.map (base + ·) ≠ some (base + j) := by
        intro e
        simp only [resApart, hr, Bool.or_eq_true, Option.isNone_iff_eq_none, bne_iff_ne, ne_eq] at hres
        rcases hres with h | h
        · rw [h] at e; cases e
        · cases hxr : x.res with
          | none => rw [hxr] at e; cases e
          | some t =>
            rw [hxr] at e h
            simp at e h
            omega
      obtain ⟨k1, k2⟩ := step_fr (blk := blk) hfr hd ht sx
      refine ⟨m.set (base + j) blk, mk wi ?_ (nochk (schk hk)), mk wx k2 (chk_fr k1 cx)⟩
      rw [hio, hir, hr]
      simp only [Option.map_some]
      rw [not_call hne]
      exact hall m hd
end
end Go.AM
