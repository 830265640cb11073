/- What the simplifier needs to go through code of the abstract level. Conditions: none. -/
import Derived.Test.YtkopmkojmhlgcaaDoorH21
namespace Go.HL
variable {T : FuncId → Spec} {e : Env} {h : HH} {P : Program} {k : List FrK} {Q : HQ} {r : Rest}

@[simp] theorem s_popK_nil {x : HX} : popK T x [] Q e h = Q x e h := popK_nil
@[simp] theorem s_popK_seq {b : HC} : popK T .normal (.seq b :: k) Q e h = go T b k Q e h := popK_seq
@[simp] theorem s_popK_seq_exit {b : HC} {j : Nat} : popK T (.exit j) (.seq b :: k) Q e h = popK T (.exit j) k Q e h := popK_seq_exit
@[simp] theorem s_popK_seq_ret {b : HC} : popK T .ret (.seq b :: k) Q e h = popK T .ret k Q e h := popK_seq_ret
@[simp] theorem s_popK_blk {id : Nat} : popK T .normal (.blk id :: k) Q e h = popK T .normal k Q e h := popK_blk
@[simp] theorem s_popK_blk_ret {id : Nat} : popK T .ret (.blk id :: k) Q e h = popK T .ret k Q e h := popK_blk_ret
@[simp] theorem s_popK_blk_exit {j id : Nat} : popK T (.exit j) (.blk id :: k) Q e h = if j = id then popK T .normal k Q e h else popK T (.exit j) k Q e h := popK_blk_exit
@[simp] theorem s_skip : go T .skip k Q e h = popK T .normal k Q e h := rfl
@[simp] theorem s_ret : go T .ret k Q e h = popK T .ret k Q e h := rfl
@[simp] theorem s_exit {id : Nat} : go T (.exit id) k Q e h = popK T (.exit id) k Q e h := rfl
@[simp] theorem s_reg {is : List HG} : go T (.reg is) k Q e h = goR T (.l is) k Q e h := rfl
@[simp] theorem s_dt {ws : List Nat} {t : DT} : go T (.dt ws t) k Q e h = goR T (.d t) k Q (e.forget ws) h := rfl
@[simp] theorem s_scope {b : HC} : go T (.scope b) k Q e h = go T b k Q e h := rfl
@[simp] theorem s_seq {a b : HC} : go T (.seq a b) k Q e h = go T a (.seq b :: k) Q e h := go_seq
@[simp] theorem s_block {id : Nat} {b : HC} : go T (.block id b) k Q e h = go T b (.blk id :: k) Q e h := go_block
@[simp] theorem s_cond {c : O} {a b : HC} : go T (.cond c a b) k Q e h = goC T (e.v c) a b k Q e h := rfl
@[simp] theorem s_true {a b : HC} : goC T (some (.bool true)) a b k Q e h = go T a k Q e h := goC_true
@[simp] theorem s_false {a b : HC} : goC T (some (.bool false)) a b k Q e h = go T b k Q e h := goC_false
@[simp] theorem s_nil : goR T (.l []) k Q e h = popK T .normal k Q e h := rfl
@[simp] theorem s_cons {i : HG} {is : List HG} : goR T (.l (i :: is)) k Q e h = stepG T i (.l is) k Q e h := rfl
@[simp] theorem s_done : goR T (.d .done) k Q e h = popK T .normal k Q e h := rfl
@[simp] theorem s_take {i : HG} {t : DT} : goR T (.d (.take i t)) k Q e h = stepG T i (.d t) k Q e h := rfl
@[simp] theorem s_takeL {p : O} {i : HG} {t : DT} : goR T (.d (.takeL p i t)) k Q e h = ((∃ l f, e.ev p = .loc l f) ∧ stepG T i (.d t) k Q e h) := rfl
@[simp] theorem s_alt {i : HG} {t o : DT} : goR T (.d (.alt i t o)) k Q e h = (stepG T i (.d t) k Q e h ∧ goR T (.d o) k Q e h) := rfl
@[simp] theorem s_stop : goR T (.d .stop) k Q e h = True := rfl
@[simp] theorem s_loc_ex {l f : Nat} : (∃ l' f', TV.loc l f = .loc l' f') = True := loc_ex
@[simp] theorem s_pur {o : Option Nat} {d : Nat} {op : PO} : stepG T ⟨none, o, .pur d op⟩ r k Q e h = stepP T (op.ev e h) d r k Q e h := rfl
@[simp] theorem s_alloc {o : Option Nat} {d : Nat} {cs : List HV} : stepG T ⟨none, o, .alloc d cs⟩ r k Q e h = goR T r k Q (e.al d cs) h := rfl
@[simp] theorem s_box {o : Option Nat} {d n : Nat} {x : O} : stepG T ⟨none, o, .box d n x⟩ r k Q e h = stepB T (e.v x) d n r k Q e h := rfl
@[simp] theorem s_new {o : Option Nat} {d : Nat} {op : NO} : stepG T ⟨none, o, .new d op⟩ r k Q e h = stepN T (op.ev e h.next) d r k Q e h := rfl
@[simp] theorem s_store {o : Option Nat} {n : Nat} {p x : O} : stepG T ⟨none, o, .store n p x⟩ r k Q e h = stepS T ((e.v x).bind fun v => hstore e h n (e.ev p) v) r k Q := stepG_store
@[simp] theorem s_app {o : Option Nat} {d sz bytes : Nat} {s x : O} : stepG T ⟨none, o, .app d sz bytes s x⟩ r k Q e h = stepA T ((e.v s).bind fun a => (e.v x).bind fun b => (h.elems sz b).bind fun news => appV h sz bytes a news) d r k Q e := stepG_app
@[simp] theorem s_call {o d : Option Nat} {f : FuncId} {xs : List O} : stepG T ⟨none, o, .call d f xs⟩ r k Q e h = stepC T f (e.vs xs) d r k Q e h := rfl
@[simp] theorem s_callv {o d : Option Nat} {fs : List FuncId} {x : O} {xs : List O} : stepG T ⟨none, o, .callv d fs x xs⟩ r k Q e h = stepV T fs (e.v x) (e.vs xs) d r k Q e h := rfl
@[simp] theorem s_mapupd {o : Option Nat} {ag : Bool} {ks : List Leaf} {m kk x : O} : stepG T ⟨none, o, .mapupd ag ks m kk x⟩ r k Q e h = stepS T ((e.v kk).bind fun a => (e.v x).bind fun v => (e.v m).bind fun q => (mapV h ag ks q a v).map fun h' => (e, h')) r k Q := stepG_mapupd
@[simp] theorem s_guard {g : Nat} {want : Bool} {o : Option Nat} {i : HI} : stepG T ⟨some (g, want), o, i⟩ r k Q e h = goG T (e.t g) want o i r k Q e h := rfl
@[simp] theorem s_goG_tt {o : Option Nat} {i : HI} : goG T (.val (.bool true)) true o i r k Q e h = stepG T ⟨none, o, i⟩ r k Q e h := goG_tt
@[simp] theorem s_goG_ff {o : Option Nat} {i : HI} : goG T (.val (.bool false)) false o i r k Q e h = stepG T ⟨none, o, i⟩ r k Q e h := goG_ff
@[simp] theorem s_goG_tf {o : Option Nat} {i : HI} : goG T (.val (.bool true)) false o i r k Q e h = goR T r k Q (e.setO o .bad) h := goG_tf
@[simp] theorem s_goG_ft {o : Option Nat} {i : HI} : goG T (.val (.bool false)) true o i r k Q e h = goR T r k Q (e.setO o .bad) h := goG_ft
@[simp] theorem s_stepP {v : TV} {d : Nat} : stepP T (some v) d r k Q e h = goR T r k Q (e.set d v) h := stepP_some
@[simp] theorem s_stepB {v : HV} {d n : Nat} : stepB T (some v) d n r k Q e h = (v.cells.length = n ∧ goR T r k Q (e.al d v.cells) h) := stepB_some
@[simp] theorem s_stepN {x : HObj} {v : HV} {d : Nat} : stepN T (some (x, v)) d r k Q e h = goR T r k Q (e.set d (.val v)) (h.new x) := stepN_some
@[simp] theorem s_stepS {e' : Env} {h' : HH} : stepS T (some (e', h')) r k Q = goR T r k Q e' h' := stepS_some
@[simp] theorem s_stepA {v : HV} {h' : HH} {d : Nat} : stepA T (some (v, h')) d r k Q e = goR T r k Q (e.set d (.val v)) h' := stepA_some
@[simp] theorem s_stepC {f : FuncId} {vs : List HV} {d : Option Nat} : stepC T f (some vs) d r k Q e h = callK T f vs d r k Q e h := stepC_some
@[simp] theorem s_stepV {fs : List FuncId} {f : FuncId} {a b vs : List HV} {d : Option Nat} : stepV T fs (some (.fn f a b)) (some vs) d r k Q e h = (f ∈ fs ∧ callK T f (a ++ vs ++ b) d r k Q e h) := stepV_some

/-! ### pure operations -/
@[simp] theorem v_mv {x : O} : (PO.mv x).ev e h = some (e.ev x) := rfl
@[simp] theorem v_pick {c a b : O} : (PO.pick c a b).ev e h = match e.v c with
    | some (.bool r) => some (if r then e.ev a else e.ev b)
    | _ => none := rfl
@[simp] theorem v_mk {z : List HV} {ps : List (Nat × Nat × O)} : (PO.mk z ps).ev e h = (mkParts e z ps).map fun l => .val (.agg l) := rfl
@[simp] theorem v_load {g : Bool} {n : Nat} {p : O} : (PO.load g n p).ev e h = (h.loadP e g n (e.ev p)).map .val := rfl
@[simp] theorem v_faddr {p : O} {off : Nat} : (PO.faddr p off).ev e h = faddrV off (e.ev p) := rfl
@[simp] theorem v_iaddr {sz : Nat} {x i : O} : (PO.iaddr sz x i).ev e h = iaddrV h sz (e.v x) (e.v i) := rfl
@[simp] theorem v_iaddrA {ln sz : Nat} {p i : O} : (PO.iaddrA ln sz p i).ev e h = iaddrAV ln sz (e.ev p) (e.v i) := rfl
@[simp] theorem v_field {g : Bool} {n off : Nat} {x : O} : (PO.field g n off x).ev e h = match e.v x with
    | some (.agg l) => (getCells g n off l).map .val
    | _ => none := rfl
@[simp] theorem v_extract {x : O} {i : Nat} : (PO.extract x i).ev e h = match e.v x with
    | some (.tup l) => (l[i]?).map .val
    | _ => none := rfl
@[simp] theorem v_un {op : UnOp} {x : O} : (PO.un op x).ev e h = (e.v x).bind fun a => (unV op a).map .val := rfl
@[simp] theorem v_bin {op : BinOp} {x y : O} : (PO.bin op x y).ev e h = (e.v x).bind fun a => (e.v y).bind fun b => (binV op a b).map .val := rfl
@[simp] theorem v_eq {neg ag : Bool} {ks : List Leaf} {x y : O} : (PO.eq neg ag ks x y).ev e h = (e.v x).bind fun a => (e.v y).bind fun b => (eqV ag ks a b).map fun r => .val (.bool (r != neg)) := rfl
@[simp] theorem v_eqnil {neg : Bool} {x : O} : (PO.eqnil neg x).ev e h = (e.v x).bind fun a => (nilV a).map fun r => .val (.bool (r != neg)) := rfl
@[simp] theorem v_nilchk {x : O} : (PO.nilchk x).ev e h = match e.ev x with
  | .val (.ptr id i f) => some (.val (.ptr id i f))
  | .loc l f => some (.loc l f)
  | .val (.fn f a b) => some (.val (.fn f a b))
  | _ => none := rfl
@[simp] theorem v_lookup {ok : Bool} {z : HV} {ag : Bool} {ks : List Leaf} {m kk : O} : (PO.lookup ok z ag ks m kk).ev e h = (e.v m).bind fun a => (e.v kk).bind fun b => if keyOk ag ks b then (lookV h ok z ag ks a b).map .val else none := rfl
@[simp] theorem v_mxmn {mx : Bool} {x : O} {xs : List O} : (PO.mxmn mx x xs).ev e h = (e.v x).bind fun a => (e.vs xs).bind fun l => (mxL mx a l).map .val := rfl
@[simp] theorem v_mkfn {f : FuncId} {a b : List O} : (PO.mkfn f a b).ev e h = (e.vs a).bind fun x => (e.vs b).map fun y => .val (.fn f x y) := rfl
@[simp] theorem v_len_s {x : O} {s : List UInt8} (hx : e.v x = some (.str s)) : (PO.len 0 x).ev e h = some (.val (.i s.length)) := by simp [PO.ev, hx]
@[simp] theorem v_len_nil {x : O} (hx : e.v x = some .nils) : (PO.len 1 x).ev e h = some (.val (.i 0)) := by simp [PO.ev, hx]
@[simp] theorem v_len_sl {x : O} {id off ln room : Nat} {ex : Bool} (hx : e.v x = some (.slice id off ln room ex)) : (PO.len 1 x).ev e h = some (.val (.i ln)) := by simp [PO.ev, hx]
@[simp] theorem v_conv_int {kd : IntKind} {x : O} : (PO.conv (.int kd) x).ev e h = match e.v x with
    | some (.int _ n) => some (.val (.int kd (kd.wrap n)))
    | _ => none := rfl
@[simp] theorem v_conv_str {x : O} : (PO.conv .str x).ev e h = (e.v x).bind fun a => (h.elems 1 a).bind fun es => (bytesOf es).map fun s => .val (.str s) := rfl

@[simp] theorem env0_t (args : List HV) (n : Nat) : (env0 args).t n = match args[n]? with | some v => .val v | none => .bad := rfl
@[simp] theorem env0_l (args : List HV) (n : Nat) : (env0 args).l n = none := rfl

@[simp] theorem wrap64 (n : Int) (h1 : -9223372036854775808 ≤ n) (h2 : n ≤ 9223372036854775807) : IntKind.i64.wrap n = n := by
  have hb : IntKind.i64.bits = 64 := rfl
  have hs : IntKind.i64.signed = true := rfl
  unfold IntKind.wrap
  simp only [hb, hs]
  have h3 : n % (2 ^ 64 : Int) = if n < 0 then n + 2 ^ 64 else n := by
    split <;> omega
  simp only [h3]
  split <;> simp <;> omega
@[simp] theorem wrap8 (n : Int) (h1 : 0 ≤ n) (h2 : n ≤ 255) : IntKind.u8.wrap n = n := by
  have hb : IntKind.u8.bits = 8 := rfl
  have hs : IntKind.u8.signed = false := rfl
  unfold IntKind.wrap
  simp only [hb, hs]
  have h3 : n % 256 = n := by omega
  simp [h3]
@[simp] theorem c_int (k : IntKind) (n : Int) : (HV.int k n).cells = [.int k n] := rfl
@[simp] theorem c_bool (b : Bool) : (HV.bool b).cells = [.bool b] := rfl
@[simp] theorem c_str (s : List UInt8) : (HV.str s).cells = [.str s] := rfl
@[simp] theorem c_slice (id off len room : Nat) (ex : Bool) : (HV.slice id off len room ex).cells = [.slice id off len room ex] := rfl
@[simp] theorem c_nils : HV.nils.cells = [.nils] := rfl
@[simp] theorem c_ptr (id i f : Nat) : (HV.ptr id i f).cells = [.ptr id i f] := rfl
@[simp] theorem c_map (id : Nat) : (HV.map id).cells = [.map id] := rfl
@[simp] theorem c_nilm : HV.nilm.cells = [.nilm] := rfl
@[simp] theorem c_fn (f : FuncId) (a b : List HV) : (HV.fn f a b).cells = [.fn f a b] := rfl
@[simp] theorem c_agg (l : List HV) : (HV.agg l).cells = l := rfl
@[simp] theorem un_not (b : Bool) : unV .not (.bool b) = some (.bool !b) := rfl
@[simp] theorem bin_add (kd : IntKind) (a b : Int) : binV .add (.int kd a) (.int kd b) = some (.int kd (kd.wrap (a + b))) := by simp [binV]
@[simp] theorem bin_sub (kd : IntKind) (a b : Int) : binV .sub (.int kd a) (.int kd b) = some (.int kd (kd.wrap (a - b))) := by simp [binV]
@[simp] theorem bin_mul (kd : IntKind) (a b : Int) : binV .mul (.int kd a) (.int kd b) = some (.int kd (kd.wrap (a * b))) := by simp [binV]
@[simp] theorem bin_eql (kd : IntKind) (a b : Int) : binV .eql (.int kd a) (.int kd b) = some (.bool (a == b)) := by simp [binV]
@[simp] theorem bin_neq (kd : IntKind) (a b : Int) : binV .neq (.int kd a) (.int kd b) = some (.bool (a != b)) := by simp [binV]
@[simp] theorem bin_lss (kd : IntKind) (a b : Int) : binV .lss (.int kd a) (.int kd b) = some (.bool (a < b)) := by simp [binV]
@[simp] theorem bin_leq (kd : IntKind) (a b : Int) : binV .leq (.int kd a) (.int kd b) = some (.bool (a ≤ b)) := by simp [binV]
@[simp] theorem bin_gtr (kd : IntKind) (a b : Int) : binV .gtr (.int kd a) (.int kd b) = some (.bool (b < a)) := by simp [binV]
@[simp] theorem bin_geq (kd : IntKind) (a b : Int) : binV .geq (.int kd a) (.int kd b) = some (.bool (b ≤ a)) := by simp [binV]
@[simp] theorem bin_quo (kd : IntKind) (a b : Int) (hb : b ≠ 0) : binV .quo (.int kd a) (.int kd b) = some (.int kd (kd.wrap (a.tdiv b))) := by simp [binV, hb]
@[simp] theorem bin_rem (kd : IntKind) (a b : Int) (hb : b ≠ 0) : binV .rem (.int kd a) (.int kd b) = some (.int kd (a.tmod b)) := by simp [binV, hb]
@[simp] theorem bin_eqs (a b : List UInt8) : binV .eql (.str a) (.str b) = some (.bool (a == b)) := rfl
@[simp] theorem bin_nes (a b : List UInt8) : binV .neq (.str a) (.str b) = some (.bool !(a == b)) := rfl
@[simp] theorem bin_lts (a b : List UInt8) : binV .lss (.str a) (.str b) = some (.bool (ltB a b)) := rfl
@[simp] theorem bin_cat (a b : List UInt8) (hl : a.length + b.length ≤ 9223372036854775807) : binV .add (.str a) (.str b) = some (.str (a ++ b)) := by
  unfold binV i64max
  simp only
  rw [if_pos (by omega)]

@[simp] theorem rvs_nil : rvs e [] = some [] := rfl
@[simp] theorem rvs_cons {x : RV} {xs : List RV} : rvs e (x :: xs) = (rvV e x).bind fun v => (rvs e xs).map (v :: ·) := rfl
@[simp] theorem rvV_t {n : Nat} : rvV e (.t n) = (e.t n).hv := rfl
@[simp] theorem resV_one {v : HV} : resV [v] = v := rfl
@[simp] theorem resV_nil : resV [] = .tup [] := rfl
@[simp] theorem resV_two {v w : HV} {l : List HV} : resV (v :: w :: l) = .tup (v :: w :: l) := rfl
end Go.HL
