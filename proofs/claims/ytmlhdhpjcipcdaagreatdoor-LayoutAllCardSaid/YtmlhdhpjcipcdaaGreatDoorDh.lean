/- Part of the proof: contracts of the functions, walked by the D-machine. No condition. -/
import Derived.Test.YtmlhdhpjcipcdaaGreatDoorDg
set_option linter.unusedVariables false
set_option linter.unusedSimpArgs false
namespace Go.Proofs.Dm
open Go Go.RowKit
def setO (hp : List (List DV)) : Option (Nat × List DV) → List (List DV)
  | none => hp
  | some (i, b) => hp.set i b
def mu (dx : Nat) (v : DV) (ib : Option (Nat × List DV)) (s : St) : St := ⟨upd s.tm dx v, setO s.hp ib⟩
theorem setO_len (hp : List (List DV)) (ib) : (setO hp ib).length = hp.length := by cases ib <;> simp [setO]
def offBox (ib : Option (Nat × List DV)) (i : Nat) : Prop := ∀ j b, ib = some (j, b) → j ≠ i
theorem setO_get {hp : List (List DV)} {ib} {i : Nat} (h : offBox ib i) : (setO hp ib)[i]? = hp[i]? := by
  cases ib with
  | none => rfl
  | some p => obtain ⟨j, b⟩ := p; simp only [setO]; rw [List.getElem?_set_ne (h j b rfl)]
theorem setO_set {hp : List (List DV)} {ib} {i : Nat} {b : List DV} (h : offBox ib i) : (setO hp ib).set i b = setO (hp.set i b) ib := by
  cases ib with
  | none => rfl
  | some p => obtain ⟨j, c⟩ := p; simp only [setO]; exact List.set_comm _ _ (h j c rfl)
theorem setO_append {hp : List (List DV)} {ib} {bs : List (List DV)} (h : ∀ j b, ib = some (j, b) → j < hp.length) : setO hp ib ++ bs = setO (hp ++ bs) ib := by
  cases ib with
  | none => rfl
  | some p => obtain ⟨j, c⟩ := p; simp only [setO]; rw [List.set_append_left _ _ (h j c rfl)]
def looksD (o : Oper) : List Tmp := o.op.operands.toList.filterMap fun | .tmp t => some t | _ => none
theorem evalD_mu {dx v ib s} {x : Operand} (h : x ≠ .tmp dx) : evalD (mu dx v ib s) x = evalD s x := by
  cases x with
  | tmp t =>
    have : t ≠ dx := fun e => h (by rw [e])
    simp [evalD, mu, upd, this]
  | const c => rfl
  | global g => rfl
  | func f => rfl
theorem put_mu {dx v ib s} {d : Option Tmp} {u : DV} (h : d ≠ some dx) : (mu dx v ib s).put d u = mu dx v ib (s.put d u) := by
  cases d with
  | none => rfl
  | some d =>
    have : d ≠ dx := fun e => h (by rw [e])
    simp only [mu, St.put, upd, St.mk.injEq, and_true]
    funext i
    by_cases h1 : i = d
    · subst h1; simp [this, upd]
    · by_cases h2 : i = dx
      · subst h2; simp [h1, upd]
      · simp [h1, h2, upd]
theorem tm_mu {dx v ib s} {t : Nat} (h : t ≠ dx) : (mu dx v ib s).tm t = s.tm t := by simp [mu, upd, h]
theorem hp_mu {dx v ib s} : (mu dx v ib s).hp = setO s.hp ib := rfl
theorem mapD_congr {ev ev' : Operand → Option DV} : ∀ {xs : List Operand}, (∀ x ∈ xs, ev x = ev' x) → mapD ev xs = mapD ev' xs
  | [], _ => rfl
  | x :: xs, h => by simp only [mapD, h x (by simp), mapD_congr (xs := xs) (fun y hy => h y (by simp [hy]))]
theorem optInt_congr {ev ev' : Operand → Option DV} {n : Int} {x : Option Operand} (h : ∀ y ∈ x, ev y = ev' y) : optInt ev n x = optInt ev' n x := by
  cases x with
  | none => rfl
  | some y => simp only [optInt, h y (by simp)]
theorem callD_congr {P : Program} {ev ev' : Operand → Option DV} {c : Call} (h : ∀ x ∈ c.operands.toList, ev x = ev' x) : callD P ev c = callD P ev' c := by
  obtain ⟨callee, args, types⟩ := c
  have ha : ∀ x ∈ args.toList, ev x = ev' x := fun x hx => h x (by simp only [Call.operands, Array.toList_append, List.mem_append]; exact .inr hx)
  unfold callD
  split
  · split
    · rename_i x t hx _
      rw [ha x (by dsimp only at hx; rw [hx]; simp)]
    · rfl
  · split
    · rename_i x y hx
      rw [ha x (by dsimp only at hx; rw [hx]; simp), ha y (by dsimp only at hx; rw [hx]; simp)]
    · rfl
  · split
    · rename_i x y hx
      rw [ha x (by dsimp only at hx; rw [hx]; simp), ha y (by dsimp only at hx; rw [hx]; simp)]
    · rfl
  · rfl
theorem pureD_congr {P : Program} {ev ev' : Operand → Option DV} {op : Op} (h : ∀ x ∈ op.operands.toList, ev x = ev' x) : pureD P ev op = pureD P ev' op := by
  cases op with
  | pick c a b => simp only [pureD, h c (by simp [Op.operands]), h a (by simp [Op.operands]), h b (by simp [Op.operands])]
  | nilCheck x => simp only [pureD, h x (by simp [Op.operands])]
  | binOp op t x y yt => simp only [pureD, h x (by simp [Op.operands]), h y (by simp [Op.operands])]
  | unOp op t x => cases op <;> simp only [pureD, h x (by simp [Op.operands])]
  | field t x i => simp only [pureD, h x (by simp [Op.operands])]
  | fieldAddr t x i => simp only [pureD, h x (by simp [Op.operands])]
  | indexAddr t x y => simp only [pureD, h x (by simp [Op.operands]), h y (by simp [Op.operands])]
  | index t x y => simp only [pureD, h x (by simp [Op.operands]), h y (by simp [Op.operands])]
  | slice t x lo hi mx =>
    cases mx with
    | some m =>
      simp only [pureD, slice3D, h x (by simp [Op.operands])]
      have e1 : ∀ n, optInt ev n lo = optInt ev' n lo := fun n => optInt_congr fun y hy => h y (by
        simp only [Option.mem_def] at hy; subst hy; simp [Op.operands])
      have e2 : ∀ n, optInt ev n hi = optInt ev' n hi := fun n => optInt_congr fun y hy => h y (by
        simp only [Option.mem_def] at hy; subst hy; simp [Op.operands])
      have e3 : ∀ n, optInt ev n (some m) = optInt ev' n (some m) := fun n => optInt_congr fun y hy => h y (by
        simp only [Option.mem_def] at hy; injection hy with hy; subst hy; simp [Op.operands])
      simp only [e1, e2, e3]
    | none =>
      simp only [pureD, sliceD, h x (by simp [Op.operands])]
      have e1 : ∀ n, optInt ev n lo = optInt ev' n lo := fun n => optInt_congr fun y hy => h y (by
        simp only [Option.mem_def] at hy; subst hy; simp [Op.operands])
      have e2 : ∀ n, optInt ev n hi = optInt ev' n hi := fun n => optInt_congr fun y hy => h y (by
        simp only [Option.mem_def] at hy; subst hy; simp [Op.operands])
      simp only [e1, e2]
  | convert s d x => simp only [pureD, h x (by simp [Op.operands])]
  | extract x i => simp only [pureD, h x (by simp [Op.operands])]
  | makeFunc f first cap =>
    cases f <;> simp only [pureD]
    split
    · rw [mapD_congr fun x hx => h x (by simp only [Op.operands, Array.toList_append, List.mem_append]; exact .inr hx)]
    · rfl
  | call c => simp only [pureD]; exact callD_congr (by simpa only [Op.operands] using h)
  | _ => simp only [pureD]
theorem mem_looks {o : Oper} {t : Tmp} : t ∈ looksD o ↔ (.tmp t : Operand) ∈ o.op.operands.toList := by
  simp only [looksD, List.mem_filterMap]
  constructor
  · rintro ⟨x, hx, e⟩
    cases x <;> simp at e
    subst e; exact hx
  · intro h; exact ⟨_, h, rfl⟩
theorem ev_mu {dx v ib s} {o : Oper} (h : dx ∉ looksD o) : ∀ x ∈ o.op.operands.toList, evalD (mu dx v ib s) x = evalD s x :=
  fun x hx => evalD_mu fun e => h (mem_looks.2 (by rw [← e]; exact hx))
theorem moveD_mu {P tk o x dx v ib s s'} (hl : dx ∉ looksD o) (hd : o.dst ≠ some dx) (hx : x ∈ o.op.operands.toList) (e : moveD P tk o x s = some s') : moveD P tk o x (mu dx v ib s) = some (mu dx v ib s') := by
  unfold moveD at e ⊢
  split at e
  · rename_i t
    have ht : t ≠ dx := fun q => hl (mem_looks.2 (by rw [← q]; exact hx))
    rw [tm_mu ht]
    split at e
    · rename_i ho
      rw [if_pos ho]
      split at e
      · rename_i htk
        rw [if_pos htk]
        split at e
        · rename_i d hdst
          injection e with e; subst e
          have : (some t : Option Tmp) ≠ some dx := fun q => ht (by injection q)
          rw [put_mu this, put_mu (by rw [← hdst]; exact hd)]
        · cases e
      · rename_i htk
        rw [if_neg htk]
        injection e with e; subst e
        rw [put_mu hd]
    · rename_i ho
      rw [if_neg ho]
      injection e with e; subst e
      rw [put_mu hd]
  · rename_i hx'
    have := evalD_mu (dx := dx) (v := v) (ib := ib) (s := s) (x := x) (fun q => hx' dx q)
    split at e
    · rename_i d he
      injection e with e; subst e
      rw [this, he]
      simp only [put_mu hd]
    · cases e
theorem newhp_mu {dx v ib s} {d : Option Tmp} {u : DV} {bs : List (List DV)} (hd : d ≠ some dx) (hb : ∀ j b, ib = some (j, b) → j < s.hp.length) :
    ({ (mu dx v ib s).put d u with hp := (mu dx v ib s).hp ++ bs } : St) = mu dx v ib { s.put d u with hp := s.hp ++ bs } := by
  rw [put_mu hd]
  simp only [mu, St.mk.injEq, true_and]
  rw [setO_append hb]
theorem allocD_mu {P o t dx v ib s s'} (hd : o.dst ≠ some dx) (hb : ∀ j b, ib = some (j, b) → j < s.hp.length) (e : allocD P o t s = some s') : allocD P o t (mu dx v ib s) = some (mu dx v ib s') := by
  unfold allocD at e ⊢
  split at e
  · rename_i d box h1 h2
    injection e with e; subst e
    have : (mu dx v ib s).hp.length = s.hp.length := by rw [hp_mu, setO_len]
    rw [this]
    try dsimp only
    rw [newhp_mu (by rw [← h1]; exact hd) hb]
  · cases e
theorem boxD_mu {P o t x dx v ib s s'} (hx : x ≠ .tmp dx) (hd : o.dst ≠ some dx) (hb : ∀ j b, ib = some (j, b) → j < s.hp.length) (e : boxD P o t x s = some s') : boxD P o t x (mu dx v ib s) = some (mu dx v ib s') := by
  unfold boxD at e ⊢
  rw [evalD_mu hx]
  split at e
  · rename_i d u h1 h2
    split at e
    · rename_i cs h3
      injection e with e; subst e
      have : (mu dx v ib s).hp.length = s.hp.length := by rw [hp_mu, setO_len]
      try rw [h1, h2]
      try rw [this]
      try dsimp only
      try rw [h3]
      try dsimp only
      rw [newhp_mu (by rw [← h1]; exact hd) hb]
    · cases e
  · cases e
def touchD (o : Oper) (s : St) : List Nat :=
  match o.op with
  | .load _ x => match evalD s x with
    | some (.ref id _) => [id]
    | _ => []
  | .store _ x _ => match evalD s x with
    | some (.ref id _) => [id]
    | _ => []
  | _ => []
theorem loadD_mu {P tk o t x dx v ib s s'} (hx : x ≠ .tmp dx) (hd : o.dst ≠ some dx) (hb : ∀ id off, evalD s x = some (.ref id off) → offBox ib id) (e : loadD P tk o t x s = some s') : loadD P tk o t x (mu dx v ib s) = some (mu dx v ib s') := by
  unfold loadD at e ⊢
  rw [evalD_mu hx]
  split at e
  · rename_i z g h1 h2
    try rw [h1, h2]
    try dsimp only
    split at e
    · rename_i id off h3
      try rw [h3]
      try dsimp only
      rw [hp_mu, setO_get (hb id off h3)]
      split at e
      · rename_i box h4
        try rw [h4]
        try dsimp only
        split at e
        · rename_i h5
          rw [if_pos h5]
          split at e
          · rename_i h6
            rw [if_pos h6]
            split at e
            · rename_i d u h7 h8
              injection e with e; subst e
              try rw [h7, h8]
              try dsimp only
              rw [put_mu (by rw [← h7]; exact hd)]
              simp only [mu, Option.some.injEq, St.mk.injEq, true_and]
              exact setO_set (hb id off h3)
            · cases e
          · rename_i h6
            rw [if_neg h6]
            obtain ⟨u, h7, h8⟩ := Option.map_eq_some_iff.1 e
            subst h8
            try rw [h7]
            simp only [Option.map_some, put_mu hd]
        · cases e
      · cases e
    · rename_i cs h3
      try rw [h3]
      try dsimp only
      split at e
      · rename_i h5
        rw [if_pos h5]
        obtain ⟨u, h7, h8⟩ := Option.map_eq_some_iff.1 e
        subst h8
        try rw [h7]
        simp only [Option.map_some, put_mu hd]
      · cases e
    · cases e
  · cases e
theorem storeD_mu {P o t x y dx v ib s s'} (hx : x ≠ .tmp dx) (hy : y ≠ .tmp dx) (hb : ∀ id off, evalD s x = some (.ref id off) → offBox ib id) (e : storeD P o t x y s = some s') : storeD P o t x y (mu dx v ib s) = some (mu dx v ib s') := by
  unfold storeD at e ⊢
  rw [evalD_mu hx, evalD_mu hy]
  split at e
  · rename_i z h1 h2
    try rw [h1, h2]
    try dsimp only
    split at e
    · rename_i id off u h3 h4
      try rw [h3, h4]
      try dsimp only
      rw [hp_mu, setO_get (hb id off h3)]
      split at e
      · rename_i cs box h5 h6
        try rw [h5, h6]
        try dsimp only
        split at e
        · rename_i h7
          rw [if_pos h7]
          split at e
          · rename_i h8
            rw [if_pos h8]
            split at e
            · rename_i ty
              injection e with e; subst e
              have : (some ty : Option Tmp) ≠ some dx := fun q => hy (by injection q with q; rw [q])
              try dsimp only
              rw [put_mu this]
              simp only [mu, Option.some.injEq, St.mk.injEq, true_and]
              exact setO_set (hb id off h3)
            · cases e
          · rename_i h8
            rw [if_neg h8]
            injection e with e; subst e
            simp only [mu, Option.some.injEq, St.mk.injEq, true_and]
            exact setO_set (hb id off h3)
        · cases e
      · cases e
    · cases e
  · cases e
theorem fillD_mu {dx v ib s} {pl : List (Nat × Nat)} : ∀ {parts : List (Nat × Operand)} {cells k}, (∀ p ∈ parts, p.2 ≠ .tmp dx) → fillD (mu dx v ib s) pl parts cells k = fillD s pl parts cells k
  | [], cells, k, h => rfl
  | (i, x) :: rest, cells, k, h => by
    simp only [fillD, evalD_mu (h (i, x) (by simp))]
    have ih := fun c k => fillD_mu (dx := dx) (v := v) (ib := ib) (s := s) (pl := pl) (parts := rest) (cells := c) (k := k) (fun p hp => h p (by simp [hp]))
    simp only [ih]
theorem buildD_mu {P o t dx v ib s s'} {parts : List (Nat × Operand)} (hp : ∀ p ∈ parts, p.2 ≠ .tmp dx) (hd : o.dst ≠ some dx) (hk : ∀ (pl : List (Nat × Nat)) zc cells ts off, fillD s pl parts zc none = some (cells, some (ts, off)) → ts ≠ dx)
    (e : buildD P o t parts s = some s') : buildD P o t parts (mu dx v ib s) = some (mu dx v ib s') := by
  unfold buildD at e ⊢
  split at e
  · rename_i d pl z h1 h2 h3
    try rw [h1, h2, h3]
    try dsimp only
    rw [fillD_mu hp]
    split at e
    · rename_i cells h4
      injection e with e; subst e
      try rw [h4]
      try dsimp only
      rw [put_mu (by rw [← h1]; exact hd)]
    · rename_i cells ts off h4
      injection e with e; subst e
      try rw [h4]
      try dsimp only
      have : (some ts : Option Tmp) ≠ some dx := fun q => hk pl z cells ts off h4 (by injection q)
      rw [put_mu this, put_mu (by rw [← h1]; exact hd)]
    · cases e
  · cases e
theorem rowsD_mu {P dx v ib s e z} : ∀ {parts : List (Nat × Operand)} {k}, (∀ p ∈ parts, p.2 ≠ .tmp dx) → rowsD P (mu dx v ib s) e z k parts = rowsD P s e z k parts
  | [], k, h => rfl
  | (i, x) :: rest, k, h => by
    simp only [rowsD, evalD_mu (h (i, x) (by simp)), rowsD_mu (parts := rest) (fun p hp => h p (by simp [hp]))]
theorem buildSliceD_mu {P o t len dx v ib s s'} {parts : List (Nat × Operand)} (hp : ∀ p ∈ parts, p.2 ≠ .tmp dx) (hd : o.dst ≠ some dx) (e : buildSliceD P o t len parts s = some s') :
    buildSliceD P o t len parts (mu dx v ib s) = some (mu dx v ib s') := by
  unfold buildSliceD at e ⊢
  split at e
  · rename_i el d h1 h2
    try rw [h1, h2]
    try dsimp only
    split at e
    · rename_i z zv h3 h4
      try rw [h3, h4]
      try dsimp only
      rw [rowsD_mu hp]
      split at e
      · rename_i rows h5
        try rw [h5]
        try dsimp only
        split at e
        · rename_i h6
          injection e with e; subst e
          rw [if_pos h6, put_mu (by rw [← h2]; exact hd)]
        · cases e
      · cases e
    · cases e
  · cases e
theorem appendD_mu {P o dx v ib s s'} {c : Call} (hl : ∀ x ∈ c.args.toList, x ≠ .tmp dx) (hd : o.dst ≠ some dx) (e : appendD P o c s = some s') : appendD P o c (mu dx v ib s) = some (mu dx v ib s') := by
  unfold appendD at e ⊢
  split at e
  · rename_i hc
    try rw [hc]
    try dsimp only
    split at e
    · rename_i x y t t' h1 h2
      try rw [h1, h2]
      try dsimp only
      have hx : x ≠ .tmp dx := hl x (by rw [h1]; simp)
      have hy : y ≠ .tmp dx := hl y (by rw [h1]; simp)
      split at e
      · rename_i el h3
        try rw [h3]
        try dsimp only
        split at e
        · rename_i z by_ zv d h4 h5 h6 h7
          try rw [h4, h5, h6, h7]
          try dsimp only
          have e1 : appBase P el z (mu dx v ib s) x = appBase P el z s x := by simp only [appBase, evalD_mu hx]
          have e2 : appMoreT P t t' z by_ (mu dx v ib s) y = appMoreT P t t' z by_ s y := by simp only [appMoreT, appMore, evalD_mu hy]
          rw [e1, e2]
          split at e
          · rename_i xs own? ys h8 h9
            try rw [h8, h9]
            try dsimp only
            split at e
            · rename_i h10
              injection e with e; subst e
              rw [if_pos h10]
              have : own? ≠ some dx := by
                intro q
                subst q
                unfold appBase at h8
                split at h8
                · split at h8
                  · rename_i ts
                    split at h8
                    · injection h8 with h8; injection h8 with _ h8; injection h8 with h8
                      exact hx (by rw [h8])
                    · cases h8
                  · cases h8
                · injection h8 with h8; injection h8 with _ h8; cases h8
                · cases h8
              rw [put_mu this, put_mu (by rw [← h7]; exact hd)]
            · cases e
          · cases e
        · cases e
      · cases e
    · cases e
  · cases e
def argBoxes (s : St) : List Operand → List Nat
  | [] => []
  | x :: xs => (match evalD s x with
    | some (.arr id _ _ _) => [id]
    | _ => []) ++ argBoxes s xs
theorem argBoxes_mem {s : St} : ∀ {xs : List Operand} {x : Operand} {id off z n : Nat}, x ∈ xs → evalD s x = some (.arr id off z n) → id ∈ argBoxes s xs
  | y :: ys, x, id, off, z, n, hx, e => by
    simp only [argBoxes, List.mem_append]
    rcases List.mem_cons.1 hx with q | q
    · subst q; rw [e]; exact .inl (by simp)
    · exact .inr (argBoxes_mem q e)
theorem argBoxes_congr {s t : St} : ∀ {xs : List Operand}, (∀ x ∈ xs, evalD t x = evalD s x) → argBoxes t xs = argBoxes s xs
  | [], h => rfl
  | x :: xs, h => by simp only [argBoxes, h x (by simp), argBoxes_congr (xs := xs) (fun y hy => h y (by simp [hy]))]
theorem needA_congr {P : Program} {s t : St} {c : Call} (h : ∀ x ∈ c.args.toList, evalD t x = evalD s x) : needA P t c = needA P s c := by
  unfold needA
  split
  · rename_i x y hx
    rw [h x (by rw [hx]; simp), h y (by rw [hx]; simp)]
  · rfl
theorem makeSliceD_mu {P o t l c dx v ib s s'} (hl : l ≠ .tmp dx) (hc : c ≠ .tmp dx) (hd : o.dst ≠ some dx) (hb : ∀ j b, ib = some (j, b) → j < s.hp.length) (e : makeSliceD P o t l c s = some s') : makeSliceD P o t l c (mu dx v ib s) = some (mu dx v ib s') := by
  unfold makeSliceD at e ⊢
  rw [evalD_mu hl, evalD_mu hc]
  split at e
  · rename_i el d k1 nn k2 nn' h1 h2 h3 h4
    try rw [h1, h2, h3, h4]
    try dsimp only
    split at e
    · rename_i z by_ zc h5 h6 h7
      try rw [h5, h6, h7]
      try dsimp only
      split at e
      · rename_i h8
        rw [if_pos h8]
        injection e with e; subst e
        have : (mu dx v ib s).hp.length = s.hp.length := by rw [hp_mu, setO_len]
        rw [this]
        rw [newhp_mu (by rw [← h2]; exact hd) hb]
      · cases e
    · cases e
  · cases e
theorem srcC_mu {z dx v ib s y src m} (hy : y ≠ .tmp dx) (hb : ∀ id off z n, evalD s y = some (.arr id off z n) → offBox ib id) (e : srcC z s y = some (src, m)) : srcC z (mu dx v ib s) y = some (src, m) := by
  unfold srcC at e ⊢
  rw [evalD_mu hy]
  split at e
  · rename_i id off z' n h1
    try rw [h1]
    try dsimp only
    rw [hp_mu, setO_get (hb id off z' n h1)]
    exact e
  · exact e
  · exact e
  · cases e
theorem clearD_mu {P o dx v ib s s'} {c : Call} (hl : ∀ x ∈ c.args.toList, x ≠ .tmp dx) (hd : o.dst ≠ some dx) (hb : ∀ i ∈ argBoxes s c.args.toList, offBox ib i) (e : clearD P o c s = some s') : clearD P o c (mu dx v ib s) = some (mu dx v ib s') := by
  unfold clearD at e ⊢
  split at e
  · rename_i x t h1 h2
    try rw [h1, h2]
    try dsimp only
    have hx : x ≠ .tmp dx := hl x (by rw [h1]; simp)
    split at e
    · rename_i el h3
      try rw [h3]
      try dsimp only
      rw [evalD_mu hx]
      split at e
      · rename_i z zc id off z' n h4 h4' h5
        try rw [h4, h4', h5]
        try dsimp only
        have hoid : offBox ib id := hb id (argBoxes_mem (by rw [h1]; simp) h5)
        split at e
        · rename_i box h6
          rw [hp_mu, setO_get hoid, h6]
          dsimp only
          split at e
          · rename_i h8
            rw [if_pos h8]
            injection e with e; subst e
            rw [put_mu hd]
          rename_i h80
          rw [if_neg h80]
          split at e
          · rename_i h8
            rw [if_pos h8]
            injection e with e; subst e
            have : ∀ (b : List DV) (u : DV), ({ mu dx v ib s with hp := (setO s.hp ib).set id b } : St).put o.dst u = mu dx v ib (({ s with hp := s.hp.set id b } : St).put o.dst u) := by
              intro b u
              rw [← put_mu hd]
              simp only [mu]
              rw [setO_set hoid]
            rw [this]
          · cases e
        · cases e
      · cases e
    · cases e
  · cases e
theorem copyD_mu {P o dx v ib s s'} {c : Call} (hl : ∀ x ∈ c.args.toList, x ≠ .tmp dx) (hd : o.dst ≠ some dx) (hb : ∀ i ∈ argBoxes s c.args.toList, offBox ib i) (e : copyD P o c s = some s') : copyD P o c (mu dx v ib s) = some (mu dx v ib s') := by
  unfold copyD at e ⊢
  split at e
  · rename_i x y t t' h1 h2
    try rw [h1, h2]
    try dsimp only
    have hx : x ≠ .tmp dx := hl x (by rw [h1]; simp)
    have hy : y ≠ .tmp dx := hl y (by rw [h1]; simp)
    split at e
    · rename_i el h3
      try rw [h3]
      try dsimp only
      rw [evalD_mu hx]
      split at e
      · rename_i z id off z' n h4 h5
        try rw [h4, h5]
        try dsimp only
        have hoid : offBox ib id := hb id (argBoxes_mem (by rw [h1]; simp) h5)
        split at e
        · rename_i box src m h6 h7
          rw [hp_mu, setO_get hoid, h6, srcC_mu hy (fun id' off' z2 n2 q => hb id' (argBoxes_mem (by rw [h1]; simp) q)) h7]
          dsimp only
          split at e
          · rename_i h8
            rw [if_pos h8]
            injection e with e; subst e
            rw [put_mu hd]
          rename_i h80
          rw [if_neg h80]
          split at e
          · rename_i h8
            rw [if_pos h8]
            injection e with e; subst e
            have : ∀ (b : List DV) (u : DV), ({ mu dx v ib s with hp := (setO s.hp ib).set id b } : St).put o.dst u = mu dx v ib (({ s with hp := s.hp.set id b } : St).put o.dst u) := by
              intro b u
              rw [← put_mu hd]
              simp only [mu]
              rw [setO_set hoid]
            rw [this]
          · cases e
        · cases e
      · cases e
    · cases e
  · cases e
theorem appendB_mu {e z by_ d x y dx v ib s s'} (hx : x ≠ .tmp dx) (hy : y ≠ .tmp dx) (hd : d ≠ dx) (hbx : ∀ id off z n, evalD s x = some (.arr id off z n) → offBox ib id) (hby : ∀ id off z n, evalD s y = some (.arr id off z n) → offBox ib id)
    (hl : ∀ j b, ib = some (j, b) → j < s.hp.length) (q : appendB e z by_ d x y s = some s') : appendB e z by_ d x y (mu dx v ib s) = some (mu dx v ib s') := by
  have hdd : (some d : Option Tmp) ≠ some dx := fun q => hd (by injection q)
  have hlen : (mu dx v ib s).hp.length = s.hp.length := by rw [hp_mu, setO_len]
  unfold appendB at q ⊢
  rw [evalD_mu hx]
  split at q
  · rename_i e' z' src m h1 h2
    rw [srcC_mu hy hby h2]
    try rw [h1]
    try dsimp only
    split at q
    · rename_i ts
      split at q
      · rename_i h3
        try dsimp only
        rw [if_pos h3]
        injection q with q; subst q
        have hts : (some ts : Option Tmp) ≠ some dx := fun q => hx (by injection q with q; rw [q])
        rw [hlen, put_mu hts, put_mu hdd]
        simp only [mu]
        rw [setO_append hl]
      · cases q
    · cases q
  · rename_i e' z' src m h1 h2
    rw [srcC_mu hy hby h2]
    try rw [h1]
    try dsimp only
    split at q
    · rename_i ts
      split at q
      · rename_i h3
        try dsimp only
        rw [if_pos h3]
        injection q with q; subst q
        have hts : (some ts : Option Tmp) ≠ some dx := fun q => hx (by injection q with q; rw [q])
        rw [hlen, put_mu hts, put_mu hdd]
        simp only [mu]
        rw [setO_append hl]
      · cases q
    · cases q
  · rename_i id off z' n src m h1 h2
    rw [srcC_mu hy hby h2]
    try rw [h1]
    try dsimp only
    have ho := hbx id off z' n h1
    rw [hp_mu, setO_get ho]
    split at q
    · rename_i box h3
      split at q
      · rename_i h4
        rw [if_pos h4]
        injection q with q; subst q
        have : (mu dx v ib s).put (some d) (.arr (setO s.hp ib).length 0 z (n + m)) = mu dx v ib (s.put (some d) (.arr s.hp.length 0 z (n + m))) := by rw [setO_len, put_mu hdd]
        rw [this]
        simp only [mu]
        rw [setO_set ho, setO_append (fun j b hj => by simpa using hl j b hj)]
      · cases q
    · cases q
  · rename_i z' xs src m h1 h2
    rw [srcC_mu hy hby h2]
    try rw [h1]
    try dsimp only
    have hm : appMore z (mu dx v ib s) y = appMore z s y := by simp only [appMore, evalD_mu hy]
    rw [hm]
    split at q
    · rename_i h3
      rw [if_pos h3]
      injection q with q; subst q
      rw [hlen, put_mu hdd]
      simp only [mu]
      rw [setO_append hl]
    · rename_i h3
      rw [if_neg h3]
      split at q
      · rename_i ys h4
        split at q
        · rename_i h5
          rw [if_pos h5]
          injection q with q; subst q
          rw [put_mu hdd]
        · cases q
      · cases q
  · rename_i src m h1 h2
    rw [srcC_mu hy hby h2]
    try rw [h1]
    try dsimp only
    split at q
    · rename_i h3
      rw [if_pos h3]
      injection q with q; subst q
      rw [hlen, put_mu hdd]
      simp only [mu]
      rw [setO_append hl]
    · cases q
  · cases q
theorem appendA_mu {P o dx v ib s s'} {c : Call} (hl : ∀ x ∈ c.args.toList, x ≠ .tmp dx) (hd : o.dst ≠ some dx) (hb : ∀ i ∈ argBoxes s c.args.toList, offBox ib i) (hib : ∀ j b, ib = some (j, b) → j < s.hp.length) (e : appendA P o c s = some s') : appendA P o c (mu dx v ib s) = some (mu dx v ib s') := by
  unfold appendA at e ⊢
  split at e
  · rename_i x y t t' d h1 h2 h3
    try rw [h1, h2, h3]
    try dsimp only
    split at e
    · rename_i el h4
      try rw [h4]
      try dsimp only
      split at e
      · rename_i z by_ zv h5 h6 h7
        try rw [h5, h6, h7]
        try dsimp only
        split at e
        · rename_i h8
          rw [if_pos h8]
          exact appendB_mu (hl x (by rw [h1]; simp)) (hl y (by rw [h1]; simp)) (fun q => hd (by rw [h3, q])) (fun id off z n q => hb id (argBoxes_mem (by rw [h1]; simp) q)) (fun id off z n q => hb id (argBoxes_mem (by rw [h1]; simp) q)) hib e
        · cases e
      · cases e
    · cases e
  · cases e
end Go.Proofs.Dm

set_option linter.unusedVariables false
set_option linter.unusedSimpArgs false
namespace Go.Proofs.Dm
open Go Go.RowKit
theorem argsD_mu {dx v ib s} {all : List Operand} : ∀ {xs : List Operand}, (∀ x ∈ xs, x ≠ .tmp dx) → argsD (mu dx v ib s) all xs = argsD s all xs
  | [], h => rfl
  | x :: xs, h => by simp only [argsD, evalD_mu (h x (by simp)), argsD_mu (xs := xs) (fun y hy => h y (by simp [hy]))]
theorem given_mu {dx v ib s} : ∀ {xs : List Operand}, (∀ x ∈ xs, x ≠ .tmp dx) → given (mu dx v ib s) xs = given s xs
  | [], h => rfl
  | x :: xs, h => by
    have ih := given_mu (dx := dx) (v := v) (ib := ib) (s := s) (xs := xs) (fun y hy => h y (by simp [hy]))
    cases x with
    | tmp t =>
      have : t ≠ dx := fun e => h (.tmp t) (by simp) (by rw [e])
      simp only [given, tm_mu this, ih]
    | _ => simp only [given, ih]
theorem calleeD_mu {dx v ib s} {x : Operand} (h : x ≠ .tmp dx) : calleeD (mu dx v ib s) x = calleeD s x := by simp only [calleeD, evalD_mu h]
theorem boxRefs_congr {hp hp' : List (List DV)} : ∀ {ids : List Nat}, (∀ i ∈ ids, hp'[i]? = hp[i]?) → boxRefs hp' ids = boxRefs hp ids
  | [], h => rfl
  | i :: is, h => by simp only [boxRefs, h i (by simp), boxRefs_congr (ids := is) (fun j hj => h j (by simp [hj]))]
theorem reach_congr {hp hp' : List (List DV)} {ds : List DV} (h : ∀ i ∈ reach hp ds, hp'[i]? = hp[i]?) : reach hp' ds = reach hp ds := by
  unfold reach at h ⊢
  dsimp only at h ⊢
  have e1 : boxRefs hp' (addNew [] (refsDs ds)) = boxRefs hp (addNew [] (refsDs ds)) := boxRefs_congr fun i hi => h i (addNew_mem (.inl (addNew_mem (.inl hi))))
  rw [e1]
  have e2 : boxRefs hp' (addNew (addNew [] (refsDs ds)) (boxRefs hp (addNew [] (refsDs ds)))) = boxRefs hp (addNew (addNew [] (refsDs ds)) (boxRefs hp (addNew [] (refsDs ds)))) :=
    boxRefs_congr fun i hi => h i (addNew_mem (.inl hi))
  rw [e2]
theorem subHp_congr {hp hp' : List (List DV)} : ∀ {ids : List Nat}, (∀ i ∈ ids, hp'[i]? = hp[i]?) → subHp hp' ids = subHp hp ids
  | [], h => rfl
  | i :: is, h => by simp only [subHp, h i (by simp), subHp_congr (ids := is) (fun j hj => h j (by simp [hj]))]
theorem writeBack_setO {ib : Option (Nat × List DV)} : ∀ {hp : List (List DV)} {ids : List Nat} {bs : List (List DV)}, (∀ i ∈ ids, offBox ib i) → (∀ j b, ib = some (j, b) → j < hp.length) →
    writeBack (setO hp ib) ids bs = setO (writeBack hp ids bs) ib
  | hp, [], bs, h, hl => by
    have : ∀ hp : List (List DV), writeBack hp [] bs = hp ++ bs := fun hp => by cases bs <;> rfl
    rw [this, this, setO_append hl]
  | hp, i :: is, [], h, hl => by simp only [writeBack, List.append_nil]
  | hp, i :: is, b :: bs, h, hl => by
    simp only [writeBack]
    rw [setO_set (h i (by simp)), writeBack_setO (fun j hj => h j (by simp [hj])) (by simpa using hl)]
theorem kills_mu {dx v ib s} {ts : List Tmp} (h : dx ∉ ts) : (mu dx v ib s).kills ts = mu dx v ib (s.kills ts) := by
  simp only [mu, St.kills, upd, St.mk.injEq, and_true]
  funext i
  by_cases h1 : i = dx
  · subst h1; simp [h, upd]
  · by_cases h2 : ts.contains i = true <;> simp [h1, upd]
theorem callTo_mu {C n o c x dx v ib s s'} (hx : x ≠ .tmp dx) (hxs : ∀ y ∈ c.args.toList, y ≠ .tmp dx) (hd : o.dst ≠ some dx) (hl : ∀ j b, ib = some (j, b) → j < s.hp.length)
    (hr : ∀ f cap ds, calleeD s x = some (f, cap) → argsD s c.args.toList c.args.toList = some ds → ∀ i ∈ reach s.hp (ds ++ cap), offBox ib i) (e : callTo C n o c x s s') :
    callTo C n o c x (mu dx v ib s) (mu dx v ib s') := by
  obtain ⟨h0, f, cap, ds, sub, args, r, bs', h1, h2, h3, h4, h5, h6, h7, h8⟩ := e
  have hoff := hr f cap ds h1 h2
  have hre : reach (mu dx v ib s).hp (ds ++ cap) = reach s.hp (ds ++ cap) := reach_congr fun i hi => setO_get (hoff i hi)
  refine ⟨h0, f, cap, ds, sub, args, r, bs', by rw [calleeD_mu hx]; exact h1, by rw [argsD_mu hxs]; exact h2, ?_, ?_, by rw [hre]; exact h5, by rw [hre]; exact h6, by rw [hre]; exact h7, ?_⟩
  · rw [hre, ← h3]; exact subHp_congr fun i hi => setO_get (hoff i hi)
  · rw [hre, hp_mu, boxRefs_congr fun i hi => setO_get (hoff i hi)]; exact h4
  · rw [hre, h8]
    have hg : dx ∉ given s c.args.toList := fun q => hxs _ ((given_mem.1 q).1) rfl
    unfold afterCall
    rw [given_mu hxs, kills_mu hg, hp_mu, setO_len, writeBack_setO hoff hl, ← put_mu hd]
    rfl
structure Lab where
  dst : Option Tmp
  looks : List Tmp
  gone : List Tmp
  rd : List Nat
  wr : List Nat
  simple : Bool
  ld : Option (Nat × Nat × Nat)
  mv : Bool
  call : Bool
  add : Bool
  sto : Bool
def stoB (o : Oper) (s : St) : Bool := match o.op with
  | .store _ _ y => match evalD s y with
    | some v => !(hasOwn v)
    | none => false
  | _ => false
def callB (o : Oper) : Bool := match o.op with
  | .call c => match c.callee with
    | .value _ => true
    | _ => false
  | _ => false
def adB (o : Oper) (s : St) : Bool := match o.op with
  | .alloc _ => true
  | .call c => match c.callee with
    | .builtin .append => match c.args.toList with
      | [x, _] => match evalD s x with
        | some (.mt _ _) => true
        | some (.arr _ _ _ _) => true
        | _ => false
      | _ => false
    | _ => false
  | _ => false
def guardSlot (ops : List Oper) (o : Oper) : List Tmp :=
  match o.guard with
  | none => []
  | some (j, _) => match (ops[j]?).bind (·.dst) with
    | some t => [t]
    | none => []
def looksG (ops : List Oper) (o : Oper) : List Tmp := guardSlot ops o ++ looksD o
def skips (ops : List Oper) (o : Oper) (s : St) : Bool := guardD ops.toArray o s == some false
def rdD (o : Oper) (s : St) : List Nat :=
  match o.op with
  | .load _ x => match evalD s x with
    | some (.ref id _) => [id]
    | _ => []
  | .store _ x _ => match evalD s x with
    | some (.ref id _) => [id]
    | _ => []
  | .call c => match c.callee with
    | .value x => match calleeD s x, argsD s c.args.toList c.args.toList with
      | some (_, cap), some ds => reach s.hp (ds ++ cap)
      | _, _ => []
    | .builtin .append => argBoxes s c.args.toList
    | .builtin .copy => argBoxes s c.args.toList
    | .builtin .clear => argBoxes s c.args.toList
    | _ => []
  | _ => []
def wrD (P : Program) (tk : Bool) (o : Oper) (s : St) : List Nat :=
  match o.op with
  | .load t x => match evalD s x with
    | some (.ref id off) => match tsz P t, s.hp[id]? with
      | some z, some box => if tk && hasOwns ((box.drop off).take z) then [id] else []
      | _, _ => []
    | _ => []
  | _ => rdD o s
def anyOwn (s : St) : List Tmp → Bool
  | [] => false
  | t :: ts => hasOwn (s.tm t) || anyOwn s ts
def simpleD (tk : Bool) (o : Oper) (s : St) : Bool :=
  match o.op with
  | .move _ => !tk || !(anyOwn s (looksD o))
  | .assign _ => !(anyOwn s (looksD o))
  | .build _ _ => !(anyOwn s (looksD o))
  | .buildSlice _ _ _ => true
  | .load _ _ => true
  | .alloc _ => false
  | .box _ _ => false
  | .store _ _ _ => false
  | .makeSlice _ _ _ => false
  | .call c => match c.callee with
    | .builtin .append => false
    | .builtin .copy => false
    | .builtin .clear => false
    | .builtin _ => true
    | _ => false
  | _ => true
def goneL (s : St) : List Tmp → List Tmp
  | [] => []
  | t :: ts => if hasOwn (s.tm t) then t :: goneL s ts else goneL s ts
def eats (o : Oper) : Bool :=
  match o.op with
  | .move _ => true
  | .assign _ => true
  | .store _ _ _ => true
  | .build _ _ => true
  | .call c => match c.callee with
    | .builtin .append => true
    | .builtin _ => false
    | _ => true
  | _ => false
def eatsT (tk : Bool) (o : Oper) : Bool :=
  match o.op with
  | .move _ => tk
  | _ => eats o
def goneD (tk : Bool) (o : Oper) (s : St) : List Tmp := if eatsT tk o then goneL s (looksD o) else []
def ldD (P : Program) (o : Oper) (s : St) : Option (Nat × Nat × Nat) :=
  match o.op with
  | .load t x => match evalD s x, tsz P t with
    | some (.ref id off), some z => some (id, off, z)
    | _, _ => none
  | _ => none
def mvD (tk : Bool) (o : Oper) (s : St) : Bool :=
  match o.op with
  | .move (.tmp t) => tk && hasOwn (s.tm t) && (match o.dst with
    | some d => d != t
    | none => false)
  | _ => false
def labD (P : Program) (ops : List Oper) (o : Oper) (s : St) : Lab :=
  if skips ops o s then ⟨o.dst, looksG ops o, [], [], [], o.dst.isSome, none, false, false, false, false⟩
  else ⟨o.dst, looksG ops o, goneD (takes ops o) o s, rdD o s, wrD P (takes ops o) o s, o.dst.isSome && simpleD (takes ops o) o s, ldD P o s, mvD (takes ops o) o s, callB o, adB o s, stoB o s⟩
def gstep (C : Ctx) (n : Nat) (ops : List Oper) (o : Oper) (s s' : St) : Prop :=
  ∃ g, guardD ops.toArray o s = some g ∧ dstOk n o.dst = true ∧ (if g then opTo C n (takes ops o) o s s' else s' = s.put o.dst .ud)
theorem goneL_mem {s : St} : ∀ {ts : List Tmp} {t : Tmp}, t ∈ goneL s ts ↔ t ∈ ts ∧ hasOwn (s.tm t) = true
  | [], t => by simp [goneL]
  | u :: us, t => by
    simp only [goneL]
    split
    · rename_i h
      simp only [List.mem_cons, goneL_mem (ts := us)]
      constructor
      · rintro (e | ⟨e1, e2⟩)
        · subst e; exact ⟨.inl rfl, h⟩
        · exact ⟨.inr e1, e2⟩
      · rintro ⟨e | e, e2⟩
        · exact .inl e
        · exact .inr ⟨e, e2⟩
    · rename_i h
      simp only [List.mem_cons, goneL_mem (ts := us)]
      constructor
      · rintro ⟨e1, e2⟩; exact ⟨.inr e1, e2⟩
      · rintro ⟨e | e, e2⟩
        · subst e; exact absurd e2 h
        · exact ⟨e, e2⟩
theorem anyOwn_false {s : St} : ∀ {ts : List Tmp}, anyOwn s ts = false → ∀ t ∈ ts, hasOwn (s.tm t) = false
  | [], h, t, ht => by simp at ht
  | u :: us, h, t, ht => by
    simp only [anyOwn, Bool.or_eq_false_iff] at h
    rcases List.mem_cons.1 ht with e | e
    · subst e; exact h.1
    · exact anyOwn_false h.2 t e
structure Keeps (s s' : St) (dst : Option Tmp) (gone : List Tmp) (wr : List Nat) : Prop where
  tm : ∀ u, dst ≠ some u → u ∉ gone → s'.tm u = s.tm u
  hp : ∀ j, j < s.hp.length → j ∉ wr → s'.hp[j]? = s.hp[j]?
  len : s.hp.length ≤ s'.hp.length
theorem keeps_put {s : St} {d : Option Tmp} {v : DV} {gone wr} : Keeps s (s.put d v) d gone wr := by
  refine ⟨fun u hu _ => ?_, fun j _ _ => ?_, ?_⟩
  · cases d with
    | none => rfl
    | some d => simp only [St.put]; rw [if_neg (fun e => hu (by rw [e]))]
  · cases d <;> rfl
  · cases d <;> exact Nat.le_refl _
theorem keeps_put2 {s : St} {t : Tmp} {d : Option Tmp} {u v : DV} {gone wr} (ht : t ∈ gone) : Keeps s ((s.put (some t) u).put d v) d gone wr := by
  refine ⟨fun x hx hg => ?_, fun j _ _ => ?_, ?_⟩
  · have : x ≠ t := fun e => hg (by rw [e]; exact ht)
    cases d with
    | none => simp only [St.put]; rw [if_neg this]
    | some d => simp only [St.put]; rw [if_neg (fun e => hx (by rw [e])), if_neg this]
  · cases d <;> rfl
  · cases d <;> exact Nat.le_refl _
theorem keeps_new {s s1 : St} {dst gone wr} {bs : List (List DV)} (k : Keeps s s1 dst gone wr) (hhp : s1.hp = s.hp) : Keeps s { s1 with hp := s.hp ++ bs } dst gone wr :=
  ⟨k.tm, fun j hj _ => List.getElem?_append_left hj, by simp⟩
theorem appendB_keeps {e z by_ d x y s s' gone wr} (hg : ∀ t, x = .tmp t → hasOwn (s.tm t) = true → t ∈ gone) (hw : ∀ id off z n, evalD s x = some (.arr id off z n) → id ∈ wr) (q : appendB e z by_ d x y s = some s') : Keeps s s' (some d) gone wr := by
  unfold appendB at q
  split at q
  · rename_i e' z' src m h1 h2
    split at q
    · rename_i ts
      split at q
      · injection q with q; subst q
        simp only [evalD, Option.some.injEq] at h1
        exact keeps_new (keeps_put2 (hg ts rfl (by rw [h1]; rfl))) rfl
      · cases q
    · cases q
  · rename_i e' z' src m h1 h2
    split at q
    · rename_i ts
      split at q
      · injection q with q; subst q
        simp only [evalD, Option.some.injEq] at h1
        exact keeps_new (keeps_put2 (hg ts rfl (by rw [h1]; rfl))) rfl
      · cases q
    · cases q
  · rename_i id off z' n src m h1 h2
    split at q
    · split at q
      · injection q with q; subst q
        have k := keeps_put (s := s) (d := some d) (v := .arr s.hp.length 0 z (n + m)) (gone := gone) (wr := wr)
        refine ⟨k.tm, fun j hj hwj => ?_, by simp⟩
        have : id ≠ j := fun q => hwj (by rw [← q]; exact hw id off z' n h1)
        rw [List.getElem?_append_left (by simpa using hj), List.getElem?_set_ne this]
      · cases q
    · cases q
  · rename_i z' xs src m h1 h2
    split at q
    · injection q with q; subst q
      exact keeps_new keeps_put rfl
    · split at q
      · split at q
        · injection q with q; subst q; exact keeps_put
        · cases q
      · cases q
  · rename_i src m h1 h2
    split at q
    · injection q with q; subst q
      exact keeps_new keeps_put rfl
    · cases q
  · cases q
theorem appendA_keeps {P o c s s' gone wr} (hg : ∀ t, (.tmp t : Operand) ∈ c.args.toList → hasOwn (s.tm t) = true → t ∈ gone) (hw : ∀ id ∈ argBoxes s c.args.toList, id ∈ wr) (q : appendA P o c s = some s') : Keeps s s' o.dst gone wr := by
  unfold appendA at q
  split at q
  · rename_i x y t t' d h1 h2 h3
    split at q
    · split at q
      · split at q
        · rw [h3]
          exact appendB_keeps (fun t hx ho => hg t (by rw [h1, ← hx]; simp) ho) (fun id off z n hx => hw id (argBoxes_mem (by rw [h1]; simp) hx)) q
        · cases q
      · cases q
    · cases q
  · cases q
theorem clearD_keeps {P o c s s' gone wr} (hw : ∀ id ∈ argBoxes s c.args.toList, id ∈ wr) (q : clearD P o c s = some s') : Keeps s s' o.dst gone wr := by
  unfold clearD at q
  split at q
  · rename_i x t h1 h2
    split at q
    · split at q
      · rename_i z zc id off z' n h4 h4' h5
        split at q
        · split at q
          · injection q with q; subst q; exact keeps_put
          split at q
          · injection q with q; subst q
            rename_i box _ _ _
            have k := keeps_put (s := ({ s with hp := s.hp.set id (box.take off ++ (List.replicate n zc).flatten ++ box.drop (off + n * z)) } : St)) (d := o.dst) (v := .tup []) (gone := gone) (wr := wr)
            refine ⟨fun u hu hg => k.tm u hu hg, fun j hj hwj => ?_, ?_⟩
            · rw [k.hp j (by simpa using hj) hwj]
              exact List.getElem?_set_ne (fun q => hwj (by rw [← q]; exact hw id (argBoxes_mem (by rw [h1]; simp) h5)))
            · have := k.len
              simpa using this
          · cases q
        · cases q
      · cases q
    · cases q
  · cases q
theorem copyD_keeps {P o c s s' gone wr} (hw : ∀ id ∈ argBoxes s c.args.toList, id ∈ wr) (q : copyD P o c s = some s') : Keeps s s' o.dst gone wr := by
  unfold copyD at q
  split at q
  · rename_i x y t t' h1 h2
    split at q
    · split at q
      · rename_i z id off z' n h4 h5
        split at q
        · split at q
          · injection q with q; subst q; exact keeps_put
          split at q
          · injection q with q; subst q
            rename_i box src m _ _ _ _
            have k := keeps_put (s := ({ s with hp := s.hp.set id (box.take off ++ src.take (min m n * z) ++ box.drop (off + min m n * z)) } : St)) (d := o.dst) (v := .p (.int .i64 (min m n : Nat))) (gone := gone) (wr := wr)
            refine ⟨fun u hu hg => k.tm u hu hg, fun j hj hwj => ?_, ?_⟩
            · rw [k.hp j (by simpa using hj) hwj]
              exact List.getElem?_set_ne (fun q => hwj (by rw [← q]; exact hw id (argBoxes_mem (by rw [h1]; simp) h5)))
            · have := k.len
              simpa using this
          · cases q
        · cases q
      · cases q
    · cases q
  · cases q
theorem makeSliceD_keeps {P o t l c s s' gone wr} (q : makeSliceD P o t l c s = some s') : Keeps s s' o.dst gone wr := by
  unfold makeSliceD at q
  split at q
  · rename_i el d k1 nn k2 nn' h1 h2 h3 h4
    split at q
    · split at q
      · injection q with q; subst q
        rw [h2]
        exact keeps_new keeps_put rfl
      · cases q
    · cases q
  · cases q
theorem stepD_keeps {P : Program} {n : Nat} {tk : Bool} {o : Oper} {s s' : St} (e : stepD P n tk o s = some s') : Keeps s s' o.dst (goneL s (looksD o)) (wrD P tk o s) := by
  have mem : ∀ t, (.tmp t : Operand) ∈ o.op.operands.toList → hasOwn (s.tm t) = true → t ∈ goneL s (looksD o) := fun t h1 h2 => goneL_mem.2 ⟨mem_looks.2 h1, h2⟩
  have mv : ∀ tk x, (x ∈ o.op.operands.toList) → moveD P tk o x s = some s' → Keeps s s' o.dst (goneL s (looksD o)) (wrD P tk o s) := by
    intro tk x hx e
    unfold moveD at e
    split at e
    · rename_i t
      split at e
      · rename_i ho
        split at e
        · split at e
          · rename_i d hdst
            injection e with e; subst e
            rw [hdst]
            exact keeps_put2 (mem t hx ho)
          · cases e
        · injection e with e; subst e; exact keeps_put
      · injection e with e; subst e; exact keeps_put
    · split at e
      · injection e with e; subst e; exact keeps_put
      · cases e
  unfold stepD at e
  split at e
  · split at e
    · rename_i x hop; have := mv tk x (by rw [hop]; simp [Op.operands]) e; exact ⟨this.tm, fun j h1 h2 => this.hp j h1 (by simp [wrD, rdD, hop]), this.len⟩
    · rename_i x hop; have := mv true x (by rw [hop]; simp [Op.operands]) e; exact ⟨this.tm, fun j h1 h2 => this.hp j h1 (by simp [wrD, rdD, hop]), this.len⟩
    · rename_i t hop
      unfold allocD at e
      split at e
      · rename_i d box h1 h2
        injection e with e; subst e
        rw [h1]
        refine ⟨fun u hu hg => (keeps_put (gone := goneL s (looksD o)) (wr := [])).tm u hu hg, fun j hj _ => ?_, by simp⟩
        exact List.getElem?_append_left hj
      · cases e
    · rename_i t x hop
      unfold boxD at e
      split at e
      · rename_i d u h1 h2
        split at e
        · injection e with e; subst e
          rw [h1]
          refine ⟨fun u hu hg => (keeps_put (gone := goneL s (looksD o)) (wr := [])).tm u hu hg, fun j hj _ => ?_, by simp⟩
          exact List.getElem?_append_left hj
        · cases e
      · cases e
    · rename_i t x hop
      unfold loadD at e
      split at e
      · rename_i z g h1 h2
        split at e
        · rename_i id off h3
          split at e
          · rename_i box h4
            split at e
            · split at e
              · rename_i h6
                split at e
                · rename_i d u h7 h8
                  injection e with e; subst e
                  rw [h7]
                  refine ⟨fun u hu hg => (keeps_put (gone := goneL s (looksD o)) (wr := [])).tm u hu hg, fun j hj hw => ?_, by simp⟩
                  have : id ≠ j := fun q => hw (by simp only [wrD, hop, h3, h1, h4]; rw [if_pos h6]; simp [q])
                  exact List.getElem?_set_ne this
                · cases e
              · obtain ⟨u, h7, h8⟩ := Option.map_eq_some_iff.1 e
                subst h8; exact keeps_put
            · cases e
          · cases e
        · split at e
          · obtain ⟨u, h7, h8⟩ := Option.map_eq_some_iff.1 e
            subst h8; exact keeps_put
          · cases e
        · cases e
      · cases e
    · rename_i t x y hop
      unfold storeD at e
      split at e
      · rename_i z h1 h2
        split at e
        · rename_i id off u h3 h4
          split at e
          · rename_i cs box h5 h6
            have hw : ∀ j, j ∉ wrD P tk o s → id ≠ j := fun j hj q => hj (by simp only [wrD, rdD, hop, h3]; simp [q])
            split at e
            · split at e
              · rename_i ho
                split at e
                · rename_i ty
                  injection e with e; subst e
                  refine ⟨fun u hu hg => ?_, fun j hj hwj => List.getElem?_set_ne (hw j hwj), by simp⟩
                  simp only [evalD, Option.some.injEq] at h4
                  have hm : ty ∈ goneL s (looksD o) := mem ty (by rw [hop]; simp [Op.operands]) (by rw [h4]; exact ho)
                  simp only [St.put]
                  rw [if_neg (fun q => hg (by rw [q]; exact hm))]
                · cases e
              · injection e with e; subst e
                exact ⟨fun u hu hg => rfl, fun j hj hwj => List.getElem?_set_ne (hw j hwj), by simp⟩
            · cases e
          · cases e
        · cases e
      · cases e
    · rename_i t parts hop
      unfold buildD at e
      split at e
      · rename_i d pl z h1 h2 h3
        split at e
        · injection e with e; subst e; rw [h1]; exact keeps_put
        · rename_i cells ts off h4
          injection e with e; subst e
          rw [h1]
          refine keeps_put2 ?_
          have := fillD_owner parts.toList z none cells ts off h4
          rcases this with q | ⟨i, q1, q2⟩
          · cases q
          · exact mem ts (by rw [hop]; simp only [Op.operands, List.toList_toArray, List.mem_map]; exact ⟨_, q1, rfl⟩) q2
        · cases e
      · cases e
    · rename_i t len parts hop
      unfold buildSliceD at e
      split at e
      · rename_i el d hts hdst
        split at e
        · split at e
          · split at e
            · injection e with e; subst e
              rw [hdst]; exact keeps_put
            · cases e
          · cases e
        · cases e
      · cases e
    · rename_i t l c hop; exact makeSliceD_keeps e
    · rename_i c hop
      split at e
      rename_i hcal
      split at e
      · exact appendA_keeps (fun t ht ho => mem t (by rw [hop]; simp only [Op.operands, Call.operands, Array.toList_append, List.mem_append]; exact .inr ht) ho) (fun id hid => by simp only [wrD, rdD, hop, hcal]; exact hid) e
      · unfold appendD at e
        split at e
        · split at e
          · rename_i x y t t' ha hb
            split at e
            · split at e
              · rename_i z by_ zv d h4 h5 h6 h7
                split at e
                · rename_i xs own? ys h8 h9
                  split at e
                  · injection e with e; subst e
                    rw [h7]
                    cases own? with
                    | none => exact keeps_put
                    | some ts =>
                      refine keeps_put2 ?_
                      unfold appBase at h8
                      split at h8
                      · rename_i e' z' xs' hev
                        split at h8
                        · rename_i t0
                          split at h8
                          · injection h8 with h8; injection h8 with _ h8; injection h8 with h8; subst h8
                            refine mem t0 (by rw [hop]; simp only [Op.operands, Call.operands, Array.toList_append, List.mem_append]; right; rw [ha]; simp) ?_
                            simp only [evalD, Option.some.injEq] at hev
                            rw [hev]; rfl
                          · cases h8
                        · cases h8
                      · injection h8 with h8; injection h8 with _ h8; cases h8
                      · cases h8
                  · cases e
                · cases e
              · cases e
            · cases e
          · cases e
        · cases e
      · rename_i hcal; exact copyD_keeps (fun id hid => by simp only [wrD, rdD, hop, hcal]; exact hid) e
      · rename_i hcal; exact clearD_keeps (fun id hid => by simp only [wrD, rdD, hop, hcal]; exact hid) e
      · obtain ⟨d, h1, h2⟩ := Option.map_eq_some_iff.1 e
        subst h2; exact keeps_put
    · obtain ⟨d, h1, h2⟩ := Option.map_eq_some_iff.1 e
      subst h2; exact keeps_put
  · cases e
where
  fillD_owner {s : St} {pl : List (Nat × Nat)} : ∀ (parts : List (Nat × Operand)) (cells : List DV) (k : Option (Tmp × Nat)) (res : List DV) (ts off : Nat), fillD s pl parts cells k = some (res, some (ts, off)) →
      k = some (ts, off) ∨ ∃ i, (i, (.tmp ts : Operand)) ∈ parts ∧ hasOwn (s.tm ts) = true
    | [], cells, k, res, ts, off, e => by simp only [fillD, Option.some.injEq, Prod.mk.injEq] at e; exact .inl e.2
    | (i, x) :: rest, cells, k, res, ts, off, e => by
      simp only [fillD] at e
      split at e
      · rename_i off' z v h1 h2
        split at e
        · rename_i ho
          split at e
          · rename_i t e2 zz xs _
            split at e
            · rcases fillD_owner rest _ _ _ _ _ e with q | ⟨j, q1, q2⟩
              · injection q with q; injection q with q1 q2
                subst q1
                simp only [evalD, Option.some.injEq] at h2
                exact .inr ⟨i, by simp, by rw [h2]; rfl⟩
              · exact .inr ⟨j, by simp [q1], q2⟩
            · cases e
          · cases e
        · split at e
          · split at e
            · rcases fillD_owner rest _ _ _ _ _ e with q | ⟨j, q1, q2⟩
              · exact .inl q
              · exact .inr ⟨j, by simp [q1], q2⟩
            · cases e
          · cases e
      · cases e
theorem Keeps.less {s s' dst gone gone' wr} (k : Keeps s s' dst gone wr) (h : ∀ u ∈ gone, u ∈ gone') : Keeps s s' dst gone' wr := ⟨fun u h1 h2 => k.tm u h1 (fun q => h2 (h u q)), k.hp, k.len⟩
theorem stepD_keeps' {P : Program} {n : Nat} {tk : Bool} {o : Oper} {s s' : St} (e : stepD P n tk o s = some s') : Keeps s s' o.dst (goneD tk o s) (wrD P tk o s) := by
  by_cases he : eatsT tk o = true
  · simp only [goneD, he, if_true]; exact stepD_keeps e
  · have k := stepD_keeps e
    simp only [goneD, he, if_false]
    refine ⟨fun u h1 _ => ?_, k.hp, k.len⟩
    have pt : ∀ d : DV, s' = s.put o.dst d → s'.tm u = s.tm u := fun d hd => by
      rw [hd]; exact (keeps_put (gone := []) (wr := [])).tm u h1 (by simp)
    unfold stepD at e
    split at e
    · split at e
      · rename_i x hop
        have htk : tk = false := by simpa [eatsT, hop] using he
        subst htk
        unfold moveD at e
        split at e
        · split at e
          · simp only [Bool.false_eq_true, if_false, Option.some.injEq] at e
            exact pt _ e.symm
          · injection e with e; exact pt _ e.symm
        · split at e
          · injection e with e; exact pt _ e.symm
          · cases e
      · rename_i x hop; exact absurd (by simp [eatsT, eats, hop]) he
      · rename_i t hop
        unfold allocD at e
        split at e
        · rename_i d box h2 h3
          injection e with e; subst e
          rw [h2] at h1
          exact (keeps_put (s := s) (d := some d) (v := .ref s.hp.length 0) (gone := []) (wr := [])).tm u h1 (by simp)
        · cases e
      · rename_i t x hop
        unfold boxD at e
        split at e
        · rename_i d u' h2 h3
          split at e
          · injection e with e; subst e
            rw [h2] at h1
            exact (keeps_put (s := s) (d := some d) (v := .ref s.hp.length 0) (gone := []) (wr := [])).tm u h1 (by simp)
          · cases e
        · cases e
      · rename_i t x hop
        unfold loadD at e
        split at e
        · split at e
          · split at e
            · split at e
              · split at e
                · split at e
                  · rename_i d v h7 h8
                    injection e with e; subst e
                    rw [h7] at h1
                    exact (keeps_put (s := s) (d := some d) (v := v) (gone := []) (wr := [])).tm u h1 (by simp)
                  · cases e
                · obtain ⟨v, h7, h8⟩ := Option.map_eq_some_iff.1 e
                  exact pt v h8.symm
              · cases e
            · cases e
          · split at e
            · obtain ⟨v, h7, h8⟩ := Option.map_eq_some_iff.1 e
              exact pt v h8.symm
            · cases e
          · cases e
        · cases e
      · rename_i t x y hop; exact absurd (by simp [eatsT, eats, hop]) he
      · rename_i t parts hop; exact absurd (by simp [eatsT, eats, hop]) he
      · rename_i t len parts hop
        unfold buildSliceD at e
        split at e
        · rename_i el d hts hdst
          split at e
          · split at e
            · split at e
              · injection e with e
                rw [← hdst] at e
                exact pt _ e.symm
              · cases e
            · cases e
          · cases e
        · cases e
      · rename_i t l c hop; exact (makeSliceD_keeps (gone := []) (wr := []) e).tm u h1 (by simp)
      · rename_i c hop
        split at e
        · rename_i hc; exact absurd (by simp [eatsT, eats, hop, hc]) he
        · rename_i hc; exact (copyD_keeps (gone := []) (wr := argBoxes s c.args.toList) (fun _ h => h) e).tm u h1 (by simp)
        · rename_i hc; exact (clearD_keeps (gone := []) (wr := argBoxes s c.args.toList) (fun _ h => h) e).tm u h1 (by simp)
        · obtain ⟨d, h2, h3⟩ := Option.map_eq_some_iff.1 e
          exact pt d h3.symm
      · obtain ⟨d, h2, h3⟩ := Option.map_eq_some_iff.1 e
        exact pt d h3.symm
    · cases e
end Go.Proofs.Dm
